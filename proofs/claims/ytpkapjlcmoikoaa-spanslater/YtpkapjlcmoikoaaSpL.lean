import Derived.Test.YtpkapjlcmoikoaaSpK
import Derived.Test.YtpkapjlcmoikoaaSpW
import Derived.Test.YtpkapjlcmoikoaaSpR
set_option linter.all false
/-
  SpansLater: the walk.
-/
namespace Go.Sx
open Go
def Xf4 : Cfg := ⟨[4], [8, 10, 12, 13], false⟩
set_option maxRecDepth 100000
set_option maxHeartbeats 4000000
set_option linter.all false
/-- the times, the first few of them later by d -/
def tmU (tm : Int → Int) (d i : Int) : Int → Int := fun j => if j < i then tm j + d else tm j
theorem row0_le {S : Nat → Option Src} {tm core kind k flat : Int → Int} {d : Int} {e e' : E} {j : Nat} (h : e.i = e'.i) (h0 : 0 ≤ e.i) (hj : j < 5) : SVle S (rowL tm core kind k flat j (plus' (.lit (Int.ofNat 0)) e)) (rowL (tmU tm d 0) core kind k flat j e') := by
  have hp : (plus' (.lit (Int.ofNat 0)) e).i = e'.i := by rw [plus'_i]; simpa using h
  match j, hj with
  | 0, _ =>
    refine ⟨rfl, ⟨?_⟩⟩
    rw [E.i_f1, E.i_f1, hp]
    unfold tmU
    rw [if_neg (by omega)]
  | 1, _ | 2, _ | 3, _ | 4, _ => exact rowL_le (flat := flat) (tm := tm) (core := core) (kind := kind) (k := k) _ _ _ hp (by omega)
theorem later_step {tm t' : Int → Int} {i d : Int} {v : E} (hi : 0 ≤ i) (ht : t' = tmU tm d i) (hv : v.i = tm i + d) : ∀ a, tmU tm d (i + 1) a = if a = i then v.i else t' a := by
  intro a
  rw [ht, hv]
  unfold tmU
  by_cases h : a = i
  · rw [if_pos h, if_pos (by omega), h]
  · rw [if_neg h]
    by_cases h2 : a < i
    · rw [if_pos h2, if_pos (by omega)]
    · rw [if_neg h2, if_neg (by omega)]
theorem later_le {S : Nat → Option Src} {t' t2 core kind k flat : Int → Int} {i : Int} {v : E} (h : ∀ a, t2 a = if a = i then v.i else t' a) : ∀ (e e' : E) (j : Nat), e.i = e'.i → j < 5 → SVle S (rowPut (rowL t' core kind k flat) (.sh i) 0 [.int .i64 v] j e) (rowL t2 core kind k flat j e')
  | e, e', 0, he, _ => by
    have : rowPut (rowL t' core kind k flat) (.sh i) 0 [.int .i64 v] 0 e = iteSV (cmp' .eql e (.sh i)) (.int .i64 v) (.int .i64 (.f1 t' e)) := rfl
    rw [this]
    obtain ⟨y, hy, hyi⟩ := iteSV_int' (cmp' .eql e (.sh i)) .i64 v (.f1 t' e)
    rw [hy]
    refine ⟨rfl, ⟨?_⟩⟩
    rw [hyi, cmp'_b, E.i_f1, E.i_f1, h, ← he]
    by_cases g : e.i = i
    · rw [if_pos g, if_pos (by simp [cmpD, g])]
    · rw [if_neg g, if_neg (by simp [cmpD, g])]
  | e, e', 1, he, _ => ⟨rfl, ⟨by rw [E.i_f1, E.i_f1, he]⟩⟩
  | e, e', 2, he, _ => ⟨rfl, ⟨by rw [E.i_f1, E.i_f1, he]⟩⟩
  | e, e', 3, he, _ => ⟨rfl, ⟨by rw [E.i_f1, E.i_f1, he]⟩⟩
  | e, e', 4, he, _ => ⟨rfl, ⟨by rw [E.i_f1, E.i_f1, he]⟩⟩
  | _, _, j + 5, _, h => by omega
theorem later_may {n d : Int} {tm t' core kind : Int → Int} (hm : mayB n tm core kind = true) (ht : ∀ j, 0 ≤ j → j < n → t' j = tm j + d) (hd : 0 ≤ d) : mayB n t' core kind = true := by
  have hok := (mayB_iff n _ _ _).1 hm
  refine mayB_true _ _ _ _ fun i h0 h1 => ?_
  obtain ⟨g1, g2, g3⟩ := hok i h0 h1
  refine ⟨by rw [ht i h0 h1]; omega, fun hp => ?_, g3⟩
  rw [ht i h0 h1, ht (i - 1) (by omega) (by omega)]
  have := g2 hp
  omega
def nines : List Int := [8, 7, 6, 5, 4, 3, 2, 1, 1]
theorem nines_mem (c : Int) : decide (c ∈ nines) = decide (c ∈ eights) := by
  rw [Bool.eq_iff_iff, decide_eq_true_eq, decide_eq_true_eq]
  simp only [nines, eights, List.mem_cons, List.not_mem_nil, or_false]
  omega
theorem later_all {n d : Int} {tm t' core kind : Int → Int} {A B : List Sp} (hd : 0 ≤ d) (hok : ∀ i : Int, 0 ≤ i → i < n → okAt tm core kind i) (ht : ∀ j, 0 ≤ j → j < n → t' j = tm j + d) (hA : A = allSp tm core kind (fun c => decide (c ∈ eights)) n.toNat) (hB : B = allSp t' core kind (fun c => decide (c ∈ nines)) n.toNat) : B = A.map (shiftS d) := by
  rw [hA, hB, show (fun c => decide (c ∈ nines)) = (fun c => decide (c ∈ eights)) from funext nines_mem]
  exact allSp_shift tm t' core kind d hd _ _ (fun i h => (hok i (by omega) (by omega)).1) (fun i h => ht i (by omega) (by omega))
theorem mem_le {tm core kind : Int → Int} {n K : Int} (hok : ∀ i : Int, 0 ≤ i → i < n → okAt tm core kind i) (hr : ∀ i : Int, 0 ≤ i → i < n → tm i ≤ K) (cs : List Int) (hnd : cs.Nodup) (want : Int → Bool) (hw : ∀ c, want c = true ↔ c ∈ cs) : ∀ s ∈ allSp tm core kind want n.toNat, s.frm ≤ K ∧ s.to ≤ K := by
  intro s hs
  have hup := may_up hok
  have := ((allSp_perm tm core kind cs hnd want hw n.toNat).mem_iff).1 hs
  obtain ⟨c, _, hsc⟩ := List.mem_flatMap.1 this
  obtain ⟨g, _⟩ := spans_ok (tm := tm) (core := core) (kind := kind) c n.toNat (fun i h => (hok i (by omega) (by omega)).1) (fun i j h h' => hup i j (by omega) (by omega) (by omega))
  obtain ⟨_, _, g1, _, ⟨i, f1, _, f3⟩, g5⟩ := g s hsc
  have a1 := (hok i (by omega) (by omega)).1
  have a2 := hr i (by omega) (by omega)
  refine ⟨by omega, ?_⟩
  rcases g5 with h | ⟨_, j, e1, _, e3⟩
  · omega
  · have := hr j (by omega) (by omega)
    omega
/-- a place of two logs' spans, the one later than the other -/
structure LaterAt (d : Int) (A B : List Sp) (a : Int) : Prop where
  sh : B.getD a.toNat default = shiftS d (A.getD a.toNat default)
  ok : MemOk (A.getD a.toNat default)
  f2 : (A.getD a.toNat default).frm ≤ 1099511627776
  t2 : (A.getD a.toNat default).to ≤ 1099511627776
theorem later_at {n d a : Int} {tm core kind : Int → Int} {A B : List Sp} (hd : 0 ≤ d) (hok : ∀ i : Int, 0 ≤ i → i < n → okAt tm core kind i) (hat : ∀ i : Int, 0 ≤ i → i < n → tm i ≤ 1099511627776) (hA : A = allSp tm core kind (fun c => decide (c ∈ eights)) n.toNat) (hAB : B = A.map (shiftS d)) (h0 : 0 ≤ a) (h1 : a < A.length) : LaterAt d A B a := by
  have hp : a.toNat < A.length := by omega
  have hmem : A.getD a.toNat default ∈ A := by
    rw [getD_get _ _ hp]
    exact List.getElem_mem hp
  have g := mem_le hok hat eights (by decide) (fun c => decide (c ∈ eights)) (fun c => by rw [decide_eq_true_eq]) _ (by rw [← hA]; exact hmem)
  have g' := mem_ok hok (fun i f1 f2 => by have := hat i f1 f2; omega) eights (by decide) (fun c => decide (c ∈ eights)) (fun c => by rw [decide_eq_true_eq]) _ (by rw [← hA]; exact hmem)
  refine ⟨?_, g', g.1, g.2⟩
  rw [hAB, map_getD _ _ _ hp]
theorem later_same {d a : Int} {A B : List Sp} (h : LaterAt d A B a) (hdm : d ≤ 1099511627776) (hd : 0 ≤ d) (hto : (A.getD a.toNat default).to < 0) : ((E.cmp BinOp.eql (E.f1 (spAt A Sp.core) (E.sh a)) (E.f1 (spAt B Sp.core) (E.sh a))).and ((E.cmp BinOp.eql (E.f1 (spAt A Sp.kind) (E.sh a)) (E.f1 (spAt B Sp.kind) (E.sh a))).and ((E.cmp BinOp.eql (E.ar BinOp.add IntKind.i64 (E.f1 (spAt A Sp.frm) (E.sh a)) (E.sh d)) (E.f1 (spAt B Sp.frm) (E.sh a))).and ((E.cmp BinOp.eql (E.f1 (spAt A Sp.to) (E.sh a)) (E.f1 (spAt B Sp.to) (E.sh a))).and ((E.cmp BinOp.eql (E.f1 (spAt A Sp.n) (E.sh a)) (E.f1 (spAt B Sp.n) (E.sh a))).and (E.bl true)))))).b = true := by
  have hw : IntKind.i64.wrap ((A.getD a.toNat default).frm + d) = (A.getD a.toNat default).frm + d := wrap64 (by have := h.ok.f0; omega) (by have := h.f2; omega)
  simp only [E.b_and, Bool.and_eq_true, t_eql, i_add, E.i_f1, E.i_sh, spAt, h.sh, hw, shiftS, true_and]
  rw [if_neg (by omega)]
  exact ⟨rfl, rfl⟩
theorem later_same2 {d a : Int} {A B : List Sp} (h : LaterAt d A B a) (hdm : d ≤ 1099511627776) (hd : 0 ≤ d) (hto : 0 ≤ (A.getD a.toNat default).to) : ((E.cmp BinOp.eql (E.f1 (spAt A Sp.core) (E.sh a)) (E.f1 (spAt B Sp.core) (E.sh a))).and ((E.cmp BinOp.eql (E.f1 (spAt A Sp.kind) (E.sh a)) (E.f1 (spAt B Sp.kind) (E.sh a))).and ((E.cmp BinOp.eql (E.ar BinOp.add IntKind.i64 (E.f1 (spAt A Sp.frm) (E.sh a)) (E.sh d)) (E.f1 (spAt B Sp.frm) (E.sh a))).and ((E.cmp BinOp.eql (E.ar BinOp.add IntKind.i64 (E.f1 (spAt A Sp.to) (E.sh a)) (E.sh d)) (E.f1 (spAt B Sp.to) (E.sh a))).and ((E.cmp BinOp.eql (E.f1 (spAt A Sp.n) (E.sh a)) (E.f1 (spAt B Sp.n) (E.sh a))).and (E.bl true)))))).b = true := by
  have hw : IntKind.i64.wrap ((A.getD a.toNat default).frm + d) = (A.getD a.toNat default).frm + d := wrap64 (by have := h.ok.f0; omega) (by have := h.f2; omega)
  have hw2 : IntKind.i64.wrap ((A.getD a.toNat default).to + d) = (A.getD a.toNat default).to + d := wrap64 (by omega) (by have := h.t2; omega)
  simp only [E.b_and, Bool.and_eq_true, t_eql, i_add, E.i_f1, E.i_sh, spAt, h.sh, hw, hw2, shiftS, true_and]
  rw [if_pos hto]
  exact ⟨rfl, rfl⟩
/-- the longest spans of two logs, the one later than the other -/
structure LaterLong (x y : Sp × Bool) : Prop where
  same : x.2 = y.2
  len : IntKind.i64.wrap (x.1.to - x.1.frm) = IntKind.i64.wrap (y.1.to - y.1.frm)
  n : x.1.n = y.1.n
theorem later_long {n d kd : Int} {tm t' core kind : Int → Int} {x y : Sp × Bool} (hd : 0 ≤ d) (hok : ∀ i : Int, 0 ≤ i → i < n → okAt tm core kind i) (hat : ∀ i : Int, 0 ≤ i → i < n → tm i ≤ 1099511627776) (ht : ∀ j, 0 ≤ j → j < n → t' j = tm j + d)
    (hx : x = longF kd (allSp tm core kind (fun c => decide (c ∈ eights)) n.toNat)) (hy : y = longF kd (allSp t' core kind (fun c => decide (c ∈ eights)) n.toNat)) : LaterLong x y := by
  rw [allSp_shift tm t' core kind d hd _ _ (fun i h => (hok i (by omega) (by omega)).1) (fun i h => ht i (by omega) (by omega))] at hy
  have hs := longF_shift kd d hd (allSp tm core kind (fun c => decide (c ∈ eights)) n.toNat)
  have hX := longF_is kd (allSp tm core kind (fun c => decide (c ∈ eights)) n.toNat)
  have hY := longF_is kd ((allSp tm core kind (fun c => decide (c ∈ eights)) n.toNat).map (shiftS d))
  rw [← hx] at hs hX
  rw [← hy] at hs hY
  refine ⟨hs.1.symm, ?_, ?_⟩
  · cases hb : x.2 with
    | false => rw [hX.no hb, hY.no (by rw [hs.1, hb])]
    | true =>
      rw [hs.2 hb]
      have := (hX.yes hb).2
      unfold shiftS
      simp only
      rw [if_pos this]
      congr 1
      omega
  · cases hb : x.2 with
    | false => rw [hX.no hb, hY.no (by rw [hs.1, hb])]
    | true => rw [hs.2 hb]; rfl
theorem same_bs {a b : Bool} (h : a = b) : ¬ ((E.bs a).beq (E.bs b)).b = false := by
  subst h
  cases a <;> decide
theorem walk_later (d : Int) (hd64 : I64 d) (kd : Int) (hkd : I8 kd) : WalkL 4 [.int .i64 (.sh d), .int .i8 (.sh kd)] := by
  intro C n tm core kind fk flat h0 hn hr
  refine (CallOb.of_run (X := Xf4) m1 (by decide +kernel) (by decide +kernel) 3000 fun O hO => ?_).h
  have hd1 : -9223372036854775808 ≤ d := hd64.1
  have hd2 : d < 9223372036854775808 := hd64.2
  cbv
  refine Br.mk (fun _ => ?_) (fun hle => ?_)
  · refine hO.co (call_closed wakes_ok ?_)
    cbv
  · rw [f_gtr] at hle
    simp only [E.i_sh, E.i_lit] at hle
    refine hO.co (Spec.call (spec_refmay n tm core kind fk flat h0 (by omega)) [.of 0] rfl rfl ?_ ?_ (fun out ho => ?_) (fun out ho => ?_))
    · cbv; repeat' apply And.intro
      all_goals first | exact trivial | exact ⟨rfl⟩ | exact noCap
    · cbv; exact ⟨⟨fun h => h, ⟨rfl⟩, fun e e' j h _ _ hj => rowL_le e e' j h hj⟩, trivial⟩
    · subst ho; exact plain_of rfl
    subst ho
    cases hm : mayB n tm core kind with
    | false =>
      cbv
      refine hO.co (call_closed wakes_ok ?_)
      cbv
    | true =>
      have hok := (mayB_iff n _ _ _).1 hm
      cbv
      refine Br.mk (fun _ => ?_) (fun hd0 => ?_)
      · refine hO.co (call_closed wakes_ok ?_)
        cbv
      refine Br.mk (fun _ => ?_) (fun hdm => ?_)
      · refine hO.co (call_closed wakes_ok ?_)
        cbv
      rw [f_lss] at hd0
      rw [f_gtr] at hdm
      simp only [E.i_sh, E.i_lit] at hd0 hdm
      have hup := may_up hok
      have hatl : 0 < n → tm (n - 1) ≤ 1099511627776 → ∀ i : Int, 0 ≤ i → i < n → tm i ≤ 1099511627776 := fun _ h i f1 f2 => by
        rcases Int.lt_or_eq_of_le (show i ≤ n - 1 by omega) with h1 | h1
        · have := hup i (n - 1) f1 h1 (by omega)
          omega
        · rw [h1]; exact h
      refine Br.mk (fun hpos => ?r1) (fun hpos => ?r2)
      case' r1 =>
        rw [t_gtr] at hpos
        simp only [E.i_sh, E.i_lit] at hpos
        have hw : IntKind.i64.wrap (n - 1) = n - 1 := wrap64 (by omega) (by omega)
        refine Ast.mk (by rw [t_leq, i_sub]; simp only [E.i_sh, E.i_lit, hw]; omega) (Ast.mk (by rw [t_lss, i_sub]; simp only [E.i_sh, E.i_lit, hw]; omega) (Ast.mk (by rw [t_lss, i_sub]; simp only [E.i_sh, E.i_lit, hw]; omega) ?_))
        refine Br.mk (fun _ => ?w) (fun hat => ?r1b)
      case w =>
        refine hO.co (call_closed wakes_ok ?_)
        cbv
      case' r1b =>
        rw [f_gtr] at hat
        rw [E.i_f1, i_sub, E.i_sh, E.i_lit, hw, E.i_lit] at hat
        replace hat := hatl hpos hat
      case' r2 =>
        rw [f_gtr] at hpos
        simp only [E.i_sh, E.i_lit] at hpos
        have hat : ∀ i : Int, 0 ≤ i → i < n → tm i ≤ 1099511627776 := fun i f1 f2 => by omega
      all_goals
        clear hpos
        refine Ast.mk (by rw [t_leq]; exact Int.le_refl _) (Ast.mk (by rw [t_leq]; simp only [E.i_sh, E.i_lit, Int.ofNat_eq_natCast]; omega) ?_)
        refine hO.lo (loop_rule' (ι := { y : Int × (Int → Int) // 0 ≤ y.1 ∧ y.1 ≤ n ∧ y.2 = tmU tm d y.1 })
          (fun st y => ⟨liveK st.tmps [0, 1, 2, 7] [(8, .int .i64 (.sh y.1.1))],
            [(2, true, .row 31 5 (.sh n) (rowL y.1.2 core kind fk flat)), (0, false, .row 31 5 (.sh n) (rowL tm core kind fk flat))], 3, []⟩)
          (fun y => (n - y.1.1).toNat) ⟨(0, tmU tm d 0), by simp, by simpa using h0, rfl⟩ [] ?_ (fun h hh => by cases hh) (fun _ => rfl) fun y => ?_)
        · constructor
          · cbv; repeat' apply And.intro
            all_goals first | exact trivial | exact ⟨rfl⟩ | exact noCap
          · exact ⟨⟨fun h => h, rfl, ⟨rfl⟩, fun e e' j h f1 _ hj => row0_le h f1 hj⟩, ⟨fun h => h, rfl, ⟨rfl⟩, fun e e' j h _ _ hj => rowL_le e e' j h hj⟩, trivial⟩
          · cbv
          · cbv
          · cbv
        · refine Snd.of_run (X := Xf4) m1 (by decide +kernel) (by decide +kernel) 3000 (by decide +kernel) fun O1 hO1 => ?_
          obtain ⟨⟨i, t'⟩, hi0, hi, ht'⟩ := y
          simp only at hi0 hi ht'
          cbv
          refine Br.mk (fun hlt => ?_) (fun hge => ?_)
          · rw [t_lss] at hlt
            simp only [E.i_sh] at hlt
            have hti : t' i = tm i := by rw [ht']; unfold tmU; rw [if_neg (by omega)]
            have hti0 := (hok i hi0 hlt).1
            have hti1 := hat i hi0 hlt
            have hst := later_step hi0 ht' (d := d) (v := .ar .add .i64 (.f1 t' (.sh i)) (.sh d)) (by rw [i_add, E.i_f1, E.i_sh, E.i_sh, hti]; exact wrap64 (by omega) (by omega))
            refine Ast.mk (by rw [t_leq]; exact hi0) (Ast.mk (by rw [t_lss]; exact hlt) (Ast.mk (by rw [t_lss]; exact hlt) (Ast.mk (by rw [t_leq]; exact hi0) (Ast.mk (by rw [t_lss]; exact hlt) (Ast.mk (by rw [t_lss]; exact hlt) ?_)))))
            refine (?_ : ∀ t2, t2 = tmU tm d (i + 1) → _) _ rfl
            intro t2 ht2
            rw [← ht2] at hst
            refine ⟨⟨(i + 1, t2), by simp only; omega, by simp only; omega, ht2⟩, [], ⟨?_, ?_, ?_, ?_, ?_⟩, ?_⟩
            · cbv; repeat' apply And.intro
              all_goals first | exact trivial | exact ⟨rfl⟩ | exact noCap | exact ⟨wrap64 (x := i + 1) (by omega) (by omega)⟩
            · exact ⟨⟨fun h => h, rfl, ⟨rfl⟩, fun e e' j h _ _ hj => later_le hst e e' j h hj⟩, ⟨fun h => h, rfl, ⟨rfl⟩, fun e e' j h _ _ hj => rowL_le e e' j h hj⟩, trivial⟩
            · cbv
            · cbv
            · cbv
            · simp only; omega
          · rw [f_lss] at hge
            simp only [E.i_sh] at hge
            have ht2 : ∀ j, 0 ≤ j → j < n → t' j = tm j + d := fun j f1 f2 => by rw [ht']; unfold tmU; rw [if_pos (by omega)]
            have hm' := later_may hm ht2 hd0
            have hr' : ∀ j, 0 ≤ j → j < n → t' j < 9223372036854775808 := fun j f1 f2 => by rw [ht2 j f1 f2]; have := hat j f1 f2; omega
            have hok' := (mayB_iff n _ _ _).1 hm'
            refine hO.co (Spec.call (spec_all n n tm core kind fk flat eights h0 (Int.le_refl _) (by omega) (by simp [eights]) (by simp [eights]) hm (fun j f1 f2 => (hr j f1 f2).1.2) 8 rfl) [.of 0, .of 3] rfl rfl ?_ ?_ (fun out ho => ?_) (fun out ho => ?_))
            · cbv; repeat' apply And.intro
              all_goals first | exact trivial | exact ⟨rfl⟩ | exact noCap
            · exact ⟨⟨(fun h => by cases h), ints_row rfl rfl fun i hi => match i, hi with
                | 0, _ | 1, _ | 2, _ | 3, _ | 4, _ | 5, _ | 6, _ | 7, _ => ⟨_, rfl, rfl⟩⟩, ⟨fun h => h, rfl, ⟨rfl⟩, fun e e' j h _ _ hj => rowL_le e e' j h hj⟩, trivial⟩
            · obtain ⟨len, M, _, rfl⟩ := ho; exact all_plain
            obtain ⟨na, A, hA, rfl⟩ := ho
            cbv
            refine hO.co (Spec.call (spec_all n n t' core kind fk flat nines h0 (Int.le_refl _) (by omega) (by simp [nines]) (by simp [nines]) hm' hr' 9 rfl) [.of 2, .of 5] rfl rfl ?_ ?_ (fun out ho => ?_) (fun out ho => ?_))
            · cbv; repeat' apply And.intro
              all_goals first | exact trivial | exact ⟨rfl⟩ | exact noCap
            · exact ⟨⟨(fun h => by cases h), ints_row rfl rfl fun i hi => match i, hi with
                | 0, _ | 1, _ | 2, _ | 3, _ | 4, _ | 5, _ | 6, _ | 7, _ | 8, _ => ⟨_, rfl, rfl⟩⟩, ⟨(fun h => by cases h), rfl, ⟨rfl⟩, fun e e' j h _ _ hj => rowL_le e e' j h hj⟩, trivial⟩
            · obtain ⟨len, M, _, rfl⟩ := ho; exact all_plain
            obtain ⟨nb, B, hB, rfl⟩ := ho
            have hAB : B = A.map (shiftS d) := later_all hd0 hok ht2 hA.l hB.l
            have hnb : nb = na := by rw [hA.len, hB.len, hAB, List.length_map]
            have hna : 0 ≤ na ∧ na ≤ 900 := by
              have h1 := hA.len
              have h2 := all_len tm core kind eights n A hA.l
              omega
            have hpl : ∀ a, 0 ≤ a → a < na → LaterAt d A B a := fun a f1 f2 => later_at hd0 hok hat hA.l hAB f1 (by rw [← hA.len]; exact f2)
            cbv
            refine Br.mk (fun h => ?_) (fun _ => ?_)
            · rw [t_not, f_eql] at h
              exact absurd hnb.symm h
            refine hO.lo (loop_rule' (ι := { a : Int // 0 ≤ a ∧ a ≤ na })
              (fun st a => ⟨liveK st.tmps [0, 1, 2, 7, 9, 11] [(13, .int .i64 (.sh a.1))],
                [(6, true, .row 33 5 (.sh nb) (spF B)), (4, true, .row 33 5 (.sh na) (spF A)), (2, true, .row 31 5 (.sh n) (rowL t' core kind fk flat)), (0, false, .row 31 5 (.sh n) (rowL tm core kind fk flat))], 7, []⟩)
              (fun a => (na - a.1).toNat) ⟨0, Int.le_refl _, hna.1⟩ [] ?_ (fun h hh => by cases hh) (fun _ => rfl) fun a => ?_)
            · constructor
              · cbv; repeat' apply And.intro
                all_goals first | exact trivial | exact ⟨rfl⟩ | exact noCap
              · exact ⟨⟨fun h => h, rfl, ⟨rfl⟩, fun e e' j h _ _ hj => spF_le e e' j h hj⟩, ⟨fun h => h, rfl, ⟨rfl⟩, fun e e' j h _ _ hj => spF_le e e' j h hj⟩, ⟨fun h => h, rfl, ⟨rfl⟩, fun e e' j h _ _ hj => rowL_le e e' j h hj⟩, ⟨fun h => h, rfl, ⟨rfl⟩, fun e e' j h _ _ hj => rowL_le e e' j h hj⟩, trivial⟩
              · cbv
              · cbv
              · cbv
            · obtain ⟨a, ha0, ha⟩ := a
              have hpl := hpl a ha0
              by_cases hto : (A.getD a.toNat default).to < 0
              · refine Snd.of_runP (X := Xf4) (fun _ => none) (knOf [] [111, 122]) m1 (by decide +kernel) (by decide +kernel) 3000 (by decide +kernel) fun O1 hO1 => ?_
                cbv
                refine Br.mk (fun hlt => ?_) (fun hge => ?_)
                · rw [t_lss] at hlt
                  simp only [E.i_sh] at hlt
                  have hpl := hpl hlt
                  have hab : a < nb := by omega
                  refine Ast.mk (by rw [t_leq]; exact ha0) (Ast.mk (by rw [t_lss]; exact hlt) (Ast.mk (by rw [t_lss]; exact hlt) ?_))
                  refine KnownAs.mk (by rw [f_geq]; exact hto) ?_
                  refine Ast.mk (by rw [t_leq]; exact ha0) (Ast.mk (by rw [t_lss]; exact hab) (Ast.mk (by rw [t_lss]; exact hab) ?_))
                  refine KnownAs.mk (by rw [f_not]; exact later_same hpl hdm hd0 hto) ?_
                  refine ⟨⟨a + 1, by omega, by omega⟩, [], ⟨?_, ?_, ?_, ?_, ?_⟩, ?_⟩
                  · cbv; repeat' apply And.intro
                    all_goals first | exact trivial | exact ⟨rfl⟩ | exact noCap | exact ⟨wrap64 (x := a + 1) (by omega) (by omega)⟩
                  · exact ⟨⟨fun h => h, rfl, ⟨rfl⟩, fun e e' j h _ _ hj => spF_le e e' j h hj⟩, ⟨fun h => h, rfl, ⟨rfl⟩, fun e e' j h _ _ hj => spF_le e e' j h hj⟩, ⟨fun h => h, rfl, ⟨rfl⟩, fun e e' j h _ _ hj => rowL_le e e' j h hj⟩, ⟨fun h => h, rfl, ⟨rfl⟩, fun e e' j h _ _ hj => rowL_le e e' j h hj⟩, trivial⟩
                  · cbv
                  · cbv
                  · cbv
                  · simp only; omega
                · rw [f_lss] at hge
                  simp only [E.i_sh] at hge
                  refine hO.co (Spec.call (spec_longest n n kd tm core kind fk flat h0 (Int.le_refl _) hle hm (fun j f1 f2 => (hr j f1 f2).1.2) hkd) [.of 0] rfl rfl ?_ ?_ (fun out ho => ?_) (fun out ho => ?_))
                  · cbv; repeat' apply And.intro
                    all_goals first | exact trivial | exact ⟨rfl⟩ | exact noCap
                  · exact ⟨⟨fun h => h, rfl, ⟨rfl⟩, fun e e' j h _ _ hj => rowL_le e e' j h hj⟩, trivial⟩
                  · obtain ⟨b, _, rfl⟩ := ho; exact plain_of rfl
                  obtain ⟨x, hx, rfl⟩ := ho
                  cbv
                  refine hO.co (Spec.call (spec_longest n n kd t' core kind fk flat h0 (Int.le_refl _) hle hm' hr' hkd) [.of 2] rfl rfl ?_ ?_ (fun out ho => ?_) (fun out ho => ?_))
                  · cbv; repeat' apply And.intro
                    all_goals first | exact trivial | exact ⟨rfl⟩ | exact noCap
                  · exact ⟨⟨(fun h => by cases h), rfl, ⟨rfl⟩, fun e e' j h _ _ hj => rowL_le e e' j h hj⟩, trivial⟩
                  · obtain ⟨b, _, rfl⟩ := ho; exact plain_of rfl
                  obtain ⟨y, hy, rfl⟩ := ho
                  have hxy := later_long hd0 hok hat ht2 hx hy
                  cbv
                  refine Br.mk (fun _ => Br.mk (fun _ => Br.mk (fun _ => ?_) (fun h => ?_)) (fun h => ?_)) (fun h => ?_)
                  · refine hO.co (call_closed wakes_ok ?_)
                    cbv
                  · rw [f_eql] at h
                    exact absurd hxy.n h
                  · rw [f_eql, i_sub, i_sub] at h
                    exact absurd hxy.len h
                  · exact absurd h (same_bs hxy.same)
              · refine Snd.of_runP (X := Xf4) (fun _ => none) (knOf [111] [122]) m1 (by decide +kernel) (by decide +kernel) 3000 (by decide +kernel) fun O1 hO1 => ?_
                cbv
                refine Br.mk (fun hlt => ?_) (fun hge => ?_)
                · rw [t_lss] at hlt
                  simp only [E.i_sh] at hlt
                  have hpl := hpl hlt
                  have hab : a < nb := by omega
                  refine Ast.mk (by rw [t_leq]; exact ha0) (Ast.mk (by rw [t_lss]; exact hlt) (Ast.mk (by rw [t_lss]; exact hlt) ?_))
                  refine KnownAs.mk (by rw [t_geq]; exact Int.not_lt.1 hto) ?_
                  refine Ast.mk (by rw [t_leq]; exact ha0) (Ast.mk (by rw [t_lss]; exact hab) (Ast.mk (by rw [t_lss]; exact hab) ?_))
                  refine KnownAs.mk (by rw [f_not]; exact later_same2 hpl hdm hd0 (Int.not_lt.1 hto)) ?_
                  refine ⟨⟨a + 1, by omega, by omega⟩, [], ⟨?_, ?_, ?_, ?_, ?_⟩, ?_⟩
                  · cbv; repeat' apply And.intro
                    all_goals first | exact trivial | exact ⟨rfl⟩ | exact noCap | exact ⟨wrap64 (x := a + 1) (by omega) (by omega)⟩
                  · exact ⟨⟨fun h => h, rfl, ⟨rfl⟩, fun e e' j h _ _ hj => spF_le e e' j h hj⟩, ⟨fun h => h, rfl, ⟨rfl⟩, fun e e' j h _ _ hj => spF_le e e' j h hj⟩, ⟨fun h => h, rfl, ⟨rfl⟩, fun e e' j h _ _ hj => rowL_le e e' j h hj⟩, ⟨fun h => h, rfl, ⟨rfl⟩, fun e e' j h _ _ hj => rowL_le e e' j h hj⟩, trivial⟩
                  · cbv
                  · cbv
                  · cbv
                  · simp only; omega
                · rw [f_lss] at hge
                  simp only [E.i_sh] at hge
                  refine hO.co (Spec.call (spec_longest n n kd tm core kind fk flat h0 (Int.le_refl _) hle hm (fun j f1 f2 => (hr j f1 f2).1.2) hkd) [.of 0] rfl rfl ?_ ?_ (fun out ho => ?_) (fun out ho => ?_))
                  · cbv; repeat' apply And.intro
                    all_goals first | exact trivial | exact ⟨rfl⟩ | exact noCap
                  · exact ⟨⟨fun h => h, rfl, ⟨rfl⟩, fun e e' j h _ _ hj => rowL_le e e' j h hj⟩, trivial⟩
                  · obtain ⟨b, _, rfl⟩ := ho; exact plain_of rfl
                  obtain ⟨x, hx, rfl⟩ := ho
                  cbv
                  refine hO.co (Spec.call (spec_longest n n kd t' core kind fk flat h0 (Int.le_refl _) hle hm' hr' hkd) [.of 2] rfl rfl ?_ ?_ (fun out ho => ?_) (fun out ho => ?_))
                  · cbv; repeat' apply And.intro
                    all_goals first | exact trivial | exact ⟨rfl⟩ | exact noCap
                  · exact ⟨⟨(fun h => by cases h), rfl, ⟨rfl⟩, fun e e' j h _ _ hj => rowL_le e e' j h hj⟩, trivial⟩
                  · obtain ⟨b, _, rfl⟩ := ho; exact plain_of rfl
                  obtain ⟨y, hy, rfl⟩ := ho
                  have hxy := later_long hd0 hok hat ht2 hx hy
                  cbv
                  refine Br.mk (fun _ => Br.mk (fun _ => Br.mk (fun _ => ?_) (fun h => ?_)) (fun h => ?_)) (fun h => ?_)
                  · refine hO.co (call_closed wakes_ok ?_)
                    cbv
                  · rw [f_eql] at h
                    exact absurd hxy.n h
                  · rw [f_eql, i_sub, i_sub] at h
                    exact absurd hxy.len h
                  · exact absurd h (same_bs hxy.same)
end Go.Sx
