import Derived.Test.YtpkapjlcmoikoaaSpU
import Derived.Test.YtpkapjlcmoikoaaSpT
import Derived.Test.YtpkapjlcmoikoaaSpY
set_option linter.all false
/-
  Longest.
-/
namespace Go.Sx
open Go
def Xf13 : Cfg := ⟨[13], [12], false⟩
set_option maxRecDepth 100000
set_option maxHeartbeats 4000000
set_option linter.all false
def eights : List Int := [1, 2, 3, 4, 5, 6, 7, 8]
theorem lstep_kind {kd : Int} {b : Sp × Bool} {s : Sp} (h : ¬ s.kind = kd) : b = longStep kd b s := by
  unfold longStep
  rw [if_neg fun g => h g.1]
theorem lstep_open {kd : Int} {b : Sp × Bool} {s : Sp} (h : s.to < 0) : b = longStep kd b s := by
  unfold longStep
  rw [if_neg fun g => by omega]
theorem lstep_first {kd : Int} {b s : Sp} (h : s.kind = kd) (h2 : 0 ≤ s.to) : (s, true) = longStep kd (b, false) s := by
  unfold longStep
  rw [if_pos ⟨h, h2⟩, if_pos (.inl rfl)]
theorem lstep_more {kd : Int} {b s : Sp} (h : s.kind = kd) (h2 : 0 ≤ s.to) (hg : b.to - b.frm < s.to - s.frm) : (s, true) = longStep kd (b, true) s := by
  unfold longStep
  rw [if_pos ⟨h, h2⟩, if_pos (.inr hg)]
theorem lstep_less {kd : Int} {b s : Sp} (hg : s.to - s.frm ≤ b.to - b.frm) : (b, true) = longStep kd (b, true) s := by
  unfold longStep
  split
  · rw [if_neg (fun h => by rcases h with h | h; cases h; simp only at h; omega)]
  · rfl
theorem lsub_eq {s : Sp} (h : MemOk s) (ht : 0 ≤ s.to) : IntKind.i64.wrap (s.to - s.frm) = s.to - s.frm := wrap64 (by have := h.f1; omega) (by have := h.t1; have := h.f0; omega)
theorem lsub {b s : Sp} {f t : Int} (hb : MemOk b) (hs : MemOk s) (h1 : 0 ≤ b.to) (h2 : 0 ≤ s.to) (g3 : f = s.frm) (g4 : t = s.to) (h : IntKind.i64.wrap (b.to - b.frm) < IntKind.i64.wrap (t - f)) : b.to - b.frm < s.to - s.frm := by
  rw [g3, g4, lsub_eq hb h1, lsub_eq hs h2] at h
  exact h
theorem lsub' {b s : Sp} {f t : Int} (hb : MemOk b) (hs : MemOk s) (h1 : 0 ≤ b.to) (h2 : 0 ≤ s.to) (g3 : f = s.frm) (g4 : t = s.to) (h : IntKind.i64.wrap (t - f) ≤ IntKind.i64.wrap (b.to - b.frm)) : s.to - s.frm ≤ b.to - b.frm := by
  rw [g3, g4, lsub_eq hb h1, lsub_eq hs h2] at h
  exact h
theorem all_len (tm core kind : Int → Int) (cs : List Int) (n : Int) (M : List Sp) (h : M = allSp tm core kind (fun c => decide (c ∈ cs)) n.toNat) : (M.length : Int) ≤ 3 * n.toNat := by
  subst h
  generalize n.toNat = m
  induction m with
  | zero => simp [allSp]
  | succ m ih =>
    simp only [allSp, List.length_append, List.length_map]
    have h1 : (newsK (core m) (kind m) (tm m) (spans tm core kind (core m) m)).length ≤ 1 := by
      rcases newsK_one (core m) (kind m) (tm m) (spans tm core kind (core m) m) with h | ⟨s, h⟩ <;> rw [h] <;> simp
    split
    · omega
    · simp only [List.length_nil]
      omega
theorem zero_test {b : Sp} (h : b = default) : ((E.cmp BinOp.eql (E.sh b.1) (E.lit 0)).and ((E.cmp BinOp.eql (E.sh b.2) (E.lit 0)).and ((E.cmp BinOp.eql (E.sh b.3) (E.lit 0)).and ((E.cmp BinOp.eql (E.sh b.4) (E.lit 0)).and ((E.cmp BinOp.eql (E.sh b.5) (E.lit 0)).and (E.bl true)))))).b = true := by
  subst h
  rfl
theorem zero_not {b : Sp} (h : 1 ≤ b.n) : ((E.cmp BinOp.eql (E.sh b.1) (E.lit 0)).and ((E.cmp BinOp.eql (E.sh b.2) (E.lit 0)).and ((E.cmp BinOp.eql (E.sh b.3) (E.lit 0)).and ((E.cmp BinOp.eql (E.sh b.4) (E.lit 0)).and ((E.cmp BinOp.eql (E.sh b.5) (E.lit 0)).and (E.bl true)))))).b = false := by
  rw [Bool.eq_false_iff]
  intro g
  simp only [E.b_and, Bool.and_eq_true, t_eql, E.i_sh, E.i_lit] at g
  have := g.2.2.2.2.1
  have e : b.n = b.5 := rfl
  omega
section
variable (n N kd : Int) (tm core kind fk flat : Int → Int)
theorem spec_longest (h0 : 0 ≤ n) (h1 : n ≤ N) (hN : N ≤ 300) (hmay : mayB n tm core kind = true) (hr : ∀ i, 0 ≤ i → i < n → tm i < 9223372036854775808) (hk : I8 kd) : Spec PP 13 [.sl 0 5 (.c 0) (.sh n) none, .int .i8 (.sh kd)] [(0, false, .row 31 5 (.sh N) (rowL tm core kind fk flat))] 1
    (fun out => ∃ b, b = longF kd (allSp tm core kind (fun c => decide (c ∈ eights)) n.toNat) ∧ out = .val (.tup [.agg [.int .i64 (.sh b.1.core), .int .i8 (.sh b.1.kind), .int .i64 (.sh b.1.frm), .int .i64 (.sh b.1.to), .int .i64 (.sh b.1.n)], .bool (.bs b.2)])) := by
  intro C
  refine CallOb.of_run (X := Xf13) m1 (by decide +kernel) (by decide +kernel) 3000 fun O hO => ?_
  have hok := (mayB_iff n _ _ _).1 hmay
  cbv
  refine hO.co (Spec.call (spec_all n N tm core kind fk flat eights h0 h1 (by omega) (by simp [eights]) (by simp [eights]) hmay hr 8 rfl) [.of 0, .of 2] rfl rfl ?_ ?_ (fun out ho => ?_) (fun out ho => ?_))
  · cbv; repeat' apply And.intro
    all_goals first | exact trivial | exact ⟨rfl⟩ | exact noCap
  · exact ⟨⟨(fun h => by cases h), ints_row rfl rfl fun i hi => match i, hi with
      | 0, _ | 1, _ | 2, _ | 3, _ | 4, _ | 5, _ | 6, _ | 7, _ => ⟨_, rfl, rfl⟩⟩, ⟨fun h => h, rfl, ⟨rfl⟩, fun e e' j h _ _ hj => rowL_le e e' j h hj⟩, trivial⟩
  · obtain ⟨len, M, _, rfl⟩ := ho; exact all_plain
  obtain ⟨len, M, hM, rfl⟩ := ho
  have hmem : ∀ s ∈ M, MemOk s := by
    rw [hM.l]
    exact mem_ok hok hr eights (by decide) _ fun c => by rw [decide_eq_true_eq]
  have hlen := hM.len
  have hMl := hM.l
  rw [← hMl]
  have hlen0 : 0 ≤ len := by omega
  have hltM : ∀ i : Int, 0 ≤ i → i < len → i < M.length := fun i _ _ => by omega
  have hall : ∀ i : Int, i = len → M.take i.toNat = M := fun i h => List.take_of_length_le (by omega)
  have hlen3 : len ≤ 4611686018427387904 := by
    have := all_len tm core kind eights n M (by rw [hMl])
    omega
  clear hlen
  cbv
  refine hO.lo (loop_rule' (ι := { y : Int × Sp × Bool // 0 ≤ y.1 ∧ y.1 ≤ len ∧ (y.2.1, y.2.2) = longF kd (M.take y.1.toNat) })
    (fun st y => ⟨liveK st.tmps [1, 4, 16, 17] [(5, .bool (.bs y.1.2.2)), (18, .int .i64 (.sh y.1.1))],
      [(3, true, .row 33 5 (.sh len) (spF M)), (1, true, .cells 33 [.int .i64 (.sh y.1.2.1.core), .int .i8 (.sh y.1.2.1.kind), .int .i64 (.sh y.1.2.1.frm), .int .i64 (.sh y.1.2.1.to), .int .i64 (.sh y.1.2.1.n)]), (0, false, .row 31 5 (.sh N) (rowL tm core kind fk flat))], 4, []⟩)
    (fun y => (len - y.1.1).toNat) ⟨(0, default, false), by simp, by simpa using hlen0, by simp [longF]⟩ [] ?_ (fun h hh => by cases hh) (fun _ => rfl) fun y => ?_)
  · constructor
    · cbv; repeat' apply And.intro
      all_goals first | exact trivial | exact ⟨rfl⟩ | exact noCap
    · cbv; repeat' apply And.intro
      all_goals first | exact trivial | exact fun h => h | exact ⟨rfl⟩ | exact noCap | rfl | exact fun e e' j h _ _ hj => rowL_le e e' j h hj | exact fun e e' j h _ _ hj => spF_le e e' j h hj
    · cbv
    · cbv
    · cbv
  · obtain ⟨⟨i, b, f⟩, hi0, hi, hb⟩ := y
    simp only at hi0 hi hb
    have hL : LongIs kd M (b, f) := by
      have := longF_is kd (M.take i.toNat)
      rw [← hb] at this
      exact ⟨this.no, fun h => ⟨List.mem_of_mem_take (this.yes h).1, (this.yes h).2⟩⟩
    have hstep : i < M.length → ∀ c, c = longStep kd (b, f) (M.getD i.toNat default) → c = longF kd (M.take (i + 1).toNat) := fun h c hc => by rw [longF_succ hi0 h, ← hb, hc]
    have hs : i < M.length → MemOk (M.getD i.toNat default) := fun h => by
      have hp : i.toNat < M.length := by omega
      rw [getD_get _ _ hp]
      exact hmem _ (List.getElem_mem hp)
    have hltM := hltM i hi0
    refine (?_ : ∀ s, s = M.getD i.toNat default → _) _ rfl
    intro s hsd
    rw [← hsd] at hs hstep
    have hstep : i < len → _ := fun h => hstep (hltM h)
    have hs : i < len → _ := fun h => hs (hltM h)
    have g1 : (M.getD i.toNat default).core = s.core := by rw [hsd]
    have g2 : (M.getD i.toNat default).kind = s.kind := by rw [hsd]
    have g3 : (M.getD i.toNat default).frm = s.frm := by rw [hsd]
    have g4 : (M.getD i.toNat default).to = s.to := by rw [hsd]
    have g5 : (M.getD i.toNat default).n = s.n := by rw [hsd]
    cases f with
    | false =>
      refine Snd.of_runP (X := Xf13) (fun _ => none) (knOf [36] []) m1 (by decide +kernel) (by decide +kernel) 3000 (by decide +kernel) fun O1 hO1 => ?_
      cbv
      refine Br.mk (fun hlt => ?_) (fun hge => ?_)
      · rw [t_lss] at hlt
        simp only [E.i_sh] at hlt
        have hs := hs hlt
        have hstep := hstep hlt
        refine Ast.mk (by rw [t_leq]; exact hi0) (Ast.mk (by rw [t_lss]; exact hlt) (Ast.mk (by rw [t_lss]; exact hlt) ?_))
        refine Br.mk (fun hk => ?_) (fun hk => ?_)
        · rw [t_not, f_eql] at hk
          refine ⟨⟨(i + 1, b, false), by simp only; omega, by simp only; omega, hstep _ (lstep_kind (by rw [← g2]; exact hk))⟩, [], ⟨?_, ?_, ?_, ?_, ?_⟩, ?_⟩
          · cbv; repeat' apply And.intro
            all_goals first | exact trivial | exact ⟨rfl⟩ | exact noCap | exact ⟨wrap64 (x := i + 1) (by omega) (by omega)⟩
          · cbv; repeat' apply And.intro
            all_goals first | exact trivial | exact fun h => h | exact ⟨rfl⟩ | exact noCap | rfl | exact fun e e' j h _ _ hj => rowL_le e e' j h hj | exact fun e e' j h _ _ hj => spF_le e e' j h hj | exact ⟨g1⟩ | exact ⟨g2⟩ | exact ⟨g3⟩ | exact ⟨g4⟩ | exact ⟨g5⟩
          · cbv
          · cbv
          · cbv
          · simp only; omega
        · rw [f_not, t_eql] at hk
          refine Br.mk (fun ht => ?_) (fun ht => ?_)
          · rw [t_lss] at ht
            refine ⟨⟨(i + 1, b, false), by simp only; omega, by simp only; omega, hstep _ (lstep_open (by rw [← g4]; exact ht))⟩, [], ⟨?_, ?_, ?_, ?_, ?_⟩, ?_⟩
            · cbv; repeat' apply And.intro
              all_goals first | exact trivial | exact ⟨rfl⟩ | exact noCap | exact ⟨wrap64 (x := i + 1) (by omega) (by omega)⟩
            · cbv; repeat' apply And.intro
              all_goals first | exact trivial | exact fun h => h | exact ⟨rfl⟩ | exact noCap | rfl | exact fun e e' j h _ _ hj => rowL_le e e' j h hj | exact fun e e' j h _ _ hj => spF_le e e' j h hj | exact ⟨g1⟩ | exact ⟨g2⟩ | exact ⟨g3⟩ | exact ⟨g4⟩ | exact ⟨g5⟩
            · cbv
            · cbv
            · cbv
            · simp only; omega
          · rw [f_lss] at ht
            refine KnownAs.mk (zero_test (hL.no rfl)) ?_
            refine ⟨⟨(i + 1, s, true), by simp only; omega, by simp only; omega, hstep _ (lstep_first (by rw [← g2]; exact hk) (by rw [← g4]; exact ht))⟩, [], ⟨?_, ?_, ?_, ?_, ?_⟩, ?_⟩
            · cbv; repeat' apply And.intro
              all_goals first | exact trivial | exact ⟨rfl⟩ | exact noCap | exact ⟨wrap64 (x := i + 1) (by omega) (by omega)⟩
            · cbv; repeat' apply And.intro
              all_goals first | exact trivial | exact fun h => h | exact ⟨rfl⟩ | exact noCap | rfl | exact fun e e' j h _ _ hj => rowL_le e e' j h hj | exact fun e e' j h _ _ hj => spF_le e e' j h hj | exact ⟨g1⟩ | exact ⟨g2⟩ | exact ⟨g3⟩ | exact ⟨g4⟩ | exact ⟨g5⟩
            · cbv
            · cbv
            · cbv
            · simp only; omega
      · rw [f_lss] at hge
        simp only [E.i_sh] at hge
        exact ⟨_, ⟨(b, false), by rw [hb, hall i (by omega)], rfl⟩, rfl⟩
    | true =>
      refine Snd.of_runP (X := Xf13) (fun _ => none) (knOf [] [36]) m1 (by decide +kernel) (by decide +kernel) 3000 (by decide +kernel) fun O1 hO1 => ?_
      cbv
      refine Br.mk (fun hlt => ?_) (fun hge => ?_)
      · rw [t_lss] at hlt
        simp only [E.i_sh] at hlt
        have hs := hs hlt
        have hstep := hstep hlt
        refine Ast.mk (by rw [t_leq]; exact hi0) (Ast.mk (by rw [t_lss]; exact hlt) (Ast.mk (by rw [t_lss]; exact hlt) ?_))
        refine Br.mk (fun hk => ?_) (fun hk => ?_)
        · rw [t_not, f_eql] at hk
          refine ⟨⟨(i + 1, b, true), by simp only; omega, by simp only; omega, hstep _ (lstep_kind (by rw [← g2]; exact hk))⟩, [], ⟨?_, ?_, ?_, ?_, ?_⟩, ?_⟩
          · cbv; repeat' apply And.intro
            all_goals first | exact trivial | exact ⟨rfl⟩ | exact noCap | exact ⟨wrap64 (x := i + 1) (by omega) (by omega)⟩
          · cbv; repeat' apply And.intro
            all_goals first | exact trivial | exact fun h => h | exact ⟨rfl⟩ | exact noCap | rfl | exact fun e e' j h _ _ hj => rowL_le e e' j h hj | exact fun e e' j h _ _ hj => spF_le e e' j h hj | exact ⟨g1⟩ | exact ⟨g2⟩ | exact ⟨g3⟩ | exact ⟨g4⟩ | exact ⟨g5⟩
          · cbv
          · cbv
          · cbv
          · simp only; omega
        · rw [f_not, t_eql] at hk
          refine Br.mk (fun ht => ?_) (fun ht => ?_)
          · rw [t_lss] at ht
            refine ⟨⟨(i + 1, b, true), by simp only; omega, by simp only; omega, hstep _ (lstep_open (by rw [← g4]; exact ht))⟩, [], ⟨?_, ?_, ?_, ?_, ?_⟩, ?_⟩
            · cbv; repeat' apply And.intro
              all_goals first | exact trivial | exact ⟨rfl⟩ | exact noCap | exact ⟨wrap64 (x := i + 1) (by omega) (by omega)⟩
            · cbv; repeat' apply And.intro
              all_goals first | exact trivial | exact fun h => h | exact ⟨rfl⟩ | exact noCap | rfl | exact fun e e' j h _ _ hj => rowL_le e e' j h hj | exact fun e e' j h _ _ hj => spF_le e e' j h hj | exact ⟨g1⟩ | exact ⟨g2⟩ | exact ⟨g3⟩ | exact ⟨g4⟩ | exact ⟨g5⟩
            · cbv
            · cbv
            · cbv
            · simp only; omega
          · rw [f_lss] at ht
            refine KnownAs.mk (zero_not (hmem _ (hL.yes rfl).1).n1) ?_
            have hbm := hmem _ (hL.yes rfl).1
            refine Br.mk (fun hg => ?_) (fun hg => ?_)
            · rw [t_gtr, i_sub, i_sub] at hg
              have hg := lsub hbm hs (hL.yes rfl).2 (by rw [← g4]; exact ht) g3 g4 hg
              refine ⟨⟨(i + 1, s, true), by simp only; omega, by simp only; omega, hstep _ (lstep_more (by rw [← g2]; exact hk) (by rw [← g4]; exact ht) hg)⟩, [], ⟨?_, ?_, ?_, ?_, ?_⟩, ?_⟩
              · cbv; repeat' apply And.intro
                all_goals first | exact trivial | exact ⟨rfl⟩ | exact noCap | exact ⟨wrap64 (x := i + 1) (by omega) (by omega)⟩
              · cbv; repeat' apply And.intro
                all_goals first | exact trivial | exact fun h => h | exact ⟨rfl⟩ | exact noCap | rfl | exact fun e e' j h _ _ hj => rowL_le e e' j h hj | exact fun e e' j h _ _ hj => spF_le e e' j h hj | exact ⟨g1⟩ | exact ⟨g2⟩ | exact ⟨g3⟩ | exact ⟨g4⟩ | exact ⟨g5⟩
              · cbv
              · cbv
              · cbv
              · simp only; omega
            · rw [f_gtr, i_sub, i_sub] at hg
              have hg := lsub' hbm hs (hL.yes rfl).2 (by rw [← g4]; exact ht) g3 g4 hg
              refine ⟨⟨(i + 1, b, true), by simp only; omega, by simp only; omega, hstep _ (lstep_less hg)⟩, [], ⟨?_, ?_, ?_, ?_, ?_⟩, ?_⟩
              · cbv; repeat' apply And.intro
                all_goals first | exact trivial | exact ⟨rfl⟩ | exact noCap | exact ⟨wrap64 (x := i + 1) (by omega) (by omega)⟩
              · cbv; repeat' apply And.intro
                all_goals first | exact trivial | exact fun h => h | exact ⟨rfl⟩ | exact noCap | rfl | exact fun e e' j h _ _ hj => rowL_le e e' j h hj | exact fun e e' j h _ _ hj => spF_le e e' j h hj | exact ⟨g1⟩ | exact ⟨g2⟩ | exact ⟨g3⟩ | exact ⟨g4⟩ | exact ⟨g5⟩
              · cbv
              · cbv
              · cbv
              · simp only; omega
      · rw [f_lss] at hge
        simp only [E.i_sh] at hge
        exact ⟨_, ⟨(b, true), by rw [hb, hall i (by omega)], rfl⟩, rfl⟩
end
end Go.Sx
