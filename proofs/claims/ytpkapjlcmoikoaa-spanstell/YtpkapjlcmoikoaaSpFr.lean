import Derived.Test.YtpkapjlcmoikoaaSpOc
import Derived.Test.YtpkapjlcmoikoaaSpFs
set_option linter.all false
/-
  The reference's from.
-/
namespace Go.Sx
open Go
def Xf35 : Cfg := ⟨[35], [43, 44], false⟩
set_option maxRecDepth 100000
set_option maxHeartbeats 4000000
set_option linter.all false
def openI (tm core kind : Int → Int) (c k : Int) (j : Int) : Bool := hasOpen k (spans tm core kind c j.toNat)
theorem openI_succ (tm core kind : Int → Int) (c : Int) {k : Int} (hk : k = 0 ∨ k = 1 ∨ k = 2) {j : Int} (h0 : 0 ≤ j) (ht : 0 ≤ tm j) : openI tm core kind c k (j + 1) = if core j = c then (if openI tm core kind c k j = true then !closesK k (kind j) else opensK k (kind j)) else openI tm core kind c k j := by
  have := open_succ tm core kind c hk j.toNat (by rw [show ((j.toNat : Nat) : Int) = j by omega]; exact ht)
  rw [show ((j.toNat : Nat) : Int) = j by omega] at this
  unfold openI
  rw [show (j + 1).toNat = j.toNat + 1 by omega]
  exact this
theorem opensAt_eq (tm core kind : Int → Int) (c k : Int) {i : Int} (h0 : 0 ≤ i) : opensAt tm core kind c k i.toNat = (decide (core i = c) && (!openI tm core kind c k i && opensK k (kind i))) := by
  unfold opensAt openI
  rw [show ((i.toNat : Nat) : Int) = i by omega]
theorem st_final (tm core kind : Int → Int) (c k i : Int) (h0 : 0 ≤ i) {m n : Int} {s : Sp} (hm : i ≤ m) (hn : m ≤ n) (hi : i < n) (hd : 0 ≤ s.to ∨ m = n) (hs : s = stS tm core kind c k i m) : s = refS tm core kind c k i.toNat (n - 1 - i).toNat := by
  rw [← stS_end tm core kind c k i hi]
  rcases hd with h | h
  · have hlt : i < m := by
      rcases Int.lt_or_eq_of_le hm with g | g
      · exact g
      · have e : (stS tm core kind c k i i).to = -1 := by unfold stS; rw [if_pos rfl]
        rw [hs, ← g, e] at h
        exact absurd h (by decide)
    have := stS_shut tm core kind c k i h0 hlt (by rw [← hs]; omega) (n - m).toNat
    rw [show m + ((n - m).toNat : Int) = n by omega] at this
    rw [this, hs]
  · rw [hs, h]
theorem st_other (tm core kind : Int → Int) (c k i : Int) (h0 : 0 ≤ i) {m : Int} {s : Sp} (hm : i ≤ m) (hc : core i = c) (hcm : ¬ core m = c) (hs : s = stS tm core kind c k i m) : s = stS tm core kind c k i (m + 1) := by
  have : i < m := by
    rcases Int.lt_or_eq_of_le hm with h | h
    · exact h
    · rw [← h] at hcm
      exact absurd hc hcm
  rw [stS_succ tm core kind c k i h0 this, if_neg hcm]
  exact hs
theorem add1_i {x y : Int} (h : y = x + 1) (h1 : -9223372036854775808 ≤ x + 1) (h2 : x + 1 < 9223372036854775808) : (E.ar .add .i64 (.sh x) (.lit 1)).i = (E.sh y).i := by
  subst h
  exact wrap64 h1 h2
section
variable (n : Int) (tm core kind fk flat : Int → Int) (c k i : Int)
theorem spec_from (hk : k = 0 ∨ k = 1 ∨ k = 2) (hN : n ≤ 300) (hi0 : 0 ≤ i) (hi : i < n) (hok : ∀ j : Int, 0 ≤ j → j < n → okAt tm core kind j) : Spec PP 35 [.sl 0 5 (.c 0) (.sh n) none, .int .i64 (.sh c), .int .i8 (.sh k), .int .i64 (.sh i)] [(0, false, .row 31 5 (.sh n) (rowL tm core kind fk flat))] 1
    (fun out => (opensAt tm core kind c k i.toNat = false → out = .val (.tup [.agg [.int .i64 (.lit 0), .int .i8 (.lit 0), .int .i64 (.lit 0), .int .i64 (.lit 0), .int .i64 (.lit 0)], .bool (.bl false)])) ∧
      (opensAt tm core kind c k i.toNat = true → ∃ s, s = refS tm core kind c k i.toNat (n - 1 - i).toNat ∧ out = .val (.tup [.agg [.int .i64 (.sh s.core), .int .i8 (.sh s.kind), .int .i64 (.sh s.frm), .int .i64 (.sh s.to), .int .i64 (.sh s.n)], .bool (.bl true)]))) := by
  intro C
  refine CallOb.of_run (X := Xf35) m1 (by decide +kernel) (by decide +kernel) 3000 fun O hO => ?_
  cbv
  refine hO.lo (loop_rule' (ι := { y : Int × Bool // 0 ≤ y.1 ∧ y.1 ≤ i ∧ y.2 = openI tm core kind c k y.1 })
    (fun st y => ⟨liveK st.tmps [0, 1, 2, 3, 8] [(10, .bool (.bs y.1.2)), (11, .int .i64 (.sh y.1.1))],
      (0, false, .row 31 5 (.sh n) (rowL tm core kind fk flat)) :: keepH [1] st.heap, 2, []⟩)
    (fun y => (i - y.1.1).toNat) ⟨(0, false), by simp, by simpa using hi0, by simp [openI, spans, hasOpen]⟩ [] ?_ (fun h hh => by cases hh) (fun _ => rfl) fun y => ?_)
  · constructor
    · cbv; repeat' apply And.intro
      all_goals first | exact trivial | exact ⟨rfl⟩ | exact noCap
    · cbv; repeat' apply And.intro
      all_goals first | exact trivial | exact fun h => h | exact ⟨rfl⟩ | rfl | exact fun e e' j h _ _ hj => rowL_le e e' j h hj
    · cbv
    · cbv
    · cbv
  · obtain ⟨⟨j, o⟩, hj0, hj, ho⟩ := y
    simp only at hj0 hj ho
    have htj : 0 ≤ tm j := (hok j hj0 (by omega)).1
    have hstep := openI_succ tm core kind c hk hj0 htj
    rw [← ho] at hstep
    refine Snd.of_run (X := Xf35) m1 (by decide +kernel) (by decide +kernel) 3000 (by decide +kernel) fun O1 hO1 => ?_
    cbv
    refine Br.mk (fun hlt => ?_) (fun hge => ?_)
    · rw [t_lss] at hlt
      simp only [E.i_sh] at hlt
      have hjn : j < n := by omega
      refine Ast.mk (by rw [t_leq]; exact hj0) (Ast.mk (by rw [t_lss]; exact hjn) (Ast.mk (by rw [t_lss]; exact hjn) ?_))
      refine Br.mk (fun hc => ?_) (fun hc => ?_)
      · rw [t_not, f_eql] at hc
        simp only [E.i_f1, E.i_sh] at hc
        rw [if_neg hc] at hstep
        refine ⟨⟨(j + 1, o), by simp only; omega, by simp only; omega, hstep.symm⟩, [], ⟨?_, ?_, ?_, ?_, ?_⟩, ?_⟩
        · cbv; repeat' apply And.intro
          all_goals first | exact trivial | exact ⟨rfl⟩ | exact noCap | exact ⟨wrap64 (x := j + 1) (by omega) (by omega)⟩ | exact ⟨(not'_b x).trans (by rw [hx]; rfl)⟩ | exact ⟨hx⟩
        · cbv; repeat' apply And.intro
          all_goals first | exact trivial | exact fun h => h | exact ⟨rfl⟩ | rfl | exact fun e e' j h _ _ hj => rowL_le e e' j h hj
        · cbv
        · cbv
        · cbv
        · simp only; omega
      · rw [f_not, t_eql] at hc
        simp only [E.i_f1, E.i_sh] at hc
        rw [if_pos hc] at hstep
        refine Br.mk (fun ho1 => ?_) (fun ho1 => ?_)
        · rw [if_pos (show o = true from ho1)] at hstep
          refine Ast.mk (by rw [t_leq]; exact hj0) (Ast.mk (by rw [t_lss]; exact hjn) (Ast.mk (by rw [t_lss]; exact hjn) ?_))
          refine hO1.co (Spec.call (spec_refcloses k (kind j) hk) [] rfl rfl ?_ ?_ (fun out ho => ?_) (fun out ho => ?_))
          · cbv; repeat' apply And.intro
            all_goals first | exact trivial | exact ⟨rfl⟩ | exact noCap
          · exact trivial
          · rcases ho with ⟨_, rfl⟩ | ⟨_, _, rfl⟩ <;> exact plain_of rfl
          rcases ho with ⟨hx, rfl⟩ | ⟨z, hx, rfl⟩
          · cbv
            refine ⟨⟨(j + 1, !closesK k (kind j)), by simp only; omega, by simp only; omega, hstep.symm⟩, [], ⟨?_, ?_, ?_, ?_, ?_⟩, ?_⟩
            · cbv; repeat' apply And.intro
              all_goals first | exact trivial | exact ⟨rfl⟩ | exact noCap | exact ⟨wrap64 (x := j + 1) (by omega) (by omega)⟩ | exact ⟨(congrArg (! ·) hx).symm⟩ | exact ⟨(E.b_not _).trans (congrArg (! ·) hx)⟩ | exact ⟨hx⟩
            · cbv; repeat' apply And.intro
              all_goals first | exact trivial | exact fun h => h | exact ⟨rfl⟩ | rfl | exact fun e e' j h _ _ hj => rowL_le e e' j h hj
            · cbv
            · cbv
            · cbv
            · simp only; omega
          · cbv
            refine ⟨⟨(j + 1, !closesK k (kind j)), by simp only; omega, by simp only; omega, hstep.symm⟩, [], ⟨?_, ?_, ?_, ?_, ?_⟩, ?_⟩
            · cbv; repeat' apply And.intro
              all_goals first | exact trivial | exact ⟨rfl⟩ | exact noCap | exact ⟨wrap64 (x := j + 1) (by omega) (by omega)⟩ | exact ⟨(congrArg (! ·) hx).symm⟩ | exact ⟨(E.b_not _).trans (congrArg (! ·) hx)⟩ | exact ⟨hx⟩
            · cbv; repeat' apply And.intro
              all_goals first | exact trivial | exact fun h => h | exact ⟨rfl⟩ | rfl | exact fun e e' j h _ _ hj => rowL_le e e' j h hj
            · cbv
            · cbv
            · cbv
            · simp only; omega
        · rw [if_neg (by rw [show o = false from ho1]; simp)] at hstep
          refine Ast.mk (by rw [t_leq]; exact hj0) (Ast.mk (by rw [t_lss]; exact hjn) (Ast.mk (by rw [t_lss]; exact hjn) ?_))
          refine hO1.co (Spec.call (spec_refopens k (kind j) hk) [] rfl rfl ?_ ?_ (fun out ho => ?_) (fun out ho => ?_))
          · cbv; repeat' apply And.intro
            all_goals first | exact trivial | exact ⟨rfl⟩ | exact noCap
          · exact trivial
          · obtain ⟨z, _, rfl⟩ := ho; exact plain_of rfl
          obtain ⟨z, hx, rfl⟩ := ho
          cbv
          refine ⟨⟨(j + 1, opensK k (kind j)), by simp only; omega, by simp only; omega, hstep.symm⟩, [], ⟨?_, ?_, ?_, ?_, ?_⟩, ?_⟩
          · cbv; repeat' apply And.intro
            all_goals first | exact trivial | exact ⟨rfl⟩ | exact noCap | exact ⟨wrap64 (x := j + 1) (by omega) (by omega)⟩ | exact ⟨hx⟩
          · cbv; repeat' apply And.intro
            all_goals first | exact trivial | exact fun h => h | exact ⟨rfl⟩ | rfl | exact fun e e' j h _ _ hj => rowL_le e e' j h hj
          · cbv
          · cbv
          · cbv
          · simp only; omega
    · rw [f_lss] at hge
      simp only [E.i_sh] at hge
      have hop := opensAt_eq tm core kind c k hi0
      rw [show openI tm core kind c k i = o by rw [ho]; congr 1; omega] at hop
      refine Br.mk (fun h => ?_) (fun h => ?_)
      · exact ⟨_, ⟨fun _ => rfl, fun hh => absurd (hop.symm.trans hh) (by rw [show o = true from h]; simp)⟩, rfl⟩
      have ho2 : o = false := h
      refine Ast.mk (by rw [t_leq]; exact hi0) (Ast.mk (by rw [t_lss]; exact hi) (Ast.mk (by rw [t_lss]; exact hi) ?_))
      refine Br.mk (fun hc => ?_) (fun hc => ?_)
      · rw [t_not, f_eql] at hc
        simp only [E.i_f1, E.i_sh] at hc
        exact ⟨_, ⟨fun _ => rfl, fun hh => absurd (hop.symm.trans hh) (by simp [hc])⟩, rfl⟩
      rw [f_not, t_eql] at hc
      simp only [E.i_f1, E.i_sh] at hc
      refine Ast.mk (by rw [t_leq]; exact hi0) (Ast.mk (by rw [t_lss]; exact hi) (Ast.mk (by rw [t_lss]; exact hi) ?_))
      refine hO.co (Spec.call (spec_refopens k (kind i) hk) [] rfl rfl ?_ ?_ (fun out ho => ?_) (fun out ho => ?_))
      · cbv; repeat' apply And.intro
        all_goals first | exact trivial | exact ⟨rfl⟩ | exact noCap
      · exact trivial
      · obtain ⟨z, _, rfl⟩ := ho; exact plain_of rfl
      obtain ⟨z, hx, rfl⟩ := ho
      cbv
      refine Br.mk (fun hq => ?_) (fun hq => ?_)
      · rw [t_not, hx] at hq
        exact ⟨_, ⟨fun _ => rfl, fun hh => absurd (hop.symm.trans hh) (by rw [hq]; simp)⟩, rfl⟩
      rw [f_not, hx] at hq
      have hop2 : opensAt tm core kind c k i.toNat = true := hop.trans (by rw [hq, ho2]; simp [hc])
      refine Ast.mk (by rw [t_leq]; exact hi0) (Ast.mk (by rw [t_lss]; exact hi) (Ast.mk (by rw [t_lss]; exact hi) ?_))
      refine hO.lo (loop_rule' (ι := { y : Int × Sp // i ≤ y.1 ∧ y.1 ≤ n ∧ y.2 = stS tm core kind c k i y.1 })
        (fun st y => ⟨liveK st.tmps [0, 1, 2, 3, 8, 12] [(13, .int .i64 (.sh y.1.1))],
          (2, true, .cells 33 [.int .i64 (.sh y.1.2.core), .int .i8 (.sh y.1.2.kind), .int .i64 (.sh y.1.2.frm), .int .i64 (.sh y.1.2.to), .int .i64 (.sh y.1.2.n)]) :: (0, false, .row 31 5 (.sh n) (rowL tm core kind fk flat)) :: keepH [1] st.heap, 3, []⟩)
        (fun y => (n - y.1.1).toNat) ⟨(i, ⟨c, k, tm i, -1, 0⟩), by simp, by simp only; omega, by simp [stS]⟩ [] ?_ (fun h hh => by cases hh) (fun _ => rfl) fun y => ?_)
      · constructor
        · cbv; repeat' apply And.intro
          all_goals first | exact trivial | exact ⟨rfl⟩ | exact noCap
        · cbv; repeat' apply And.intro
          all_goals first | exact trivial | exact fun h => h | exact ⟨rfl⟩ | rfl | exact fun e e' j h _ _ hj => rowL_le e e' j h hj
        · cbv
        · cbv
        · cbv
      · obtain ⟨⟨m, s⟩, hm0, hm, hs⟩ := y
        simp only at hm0 hm hs
        refine Snd.of_run (X := Xf35) m1 (by decide +kernel) (by decide +kernel) 3000 (by decide +kernel) fun O2 hO2 => ?_
        cbv
        refine Br.mk (fun hlt => ?_) (fun hge => ?_)
        · rw [t_lss] at hlt
          simp only [E.i_sh] at hlt
          refine Br.mk (fun hto => ?_) (fun hto => ?_)
          · rw [t_lss] at hto
            simp only [E.i_sh, E.i_lit] at hto
            refine Ast.mk (by rw [t_leq]; simp only [E.i_sh, E.i_lit]; omega) (Ast.mk (by rw [t_lss]; exact hlt) (Ast.mk (by rw [t_lss]; exact hlt) ?_))
            refine Br.mk (fun hcm => ?_) (fun hcm => ?_)
            · rw [t_not, f_eql] at hcm
              simp only [E.i_f1, E.i_sh] at hcm
              refine ⟨⟨(m + 1, s), by simp only; omega, by simp only; omega, st_other tm core kind c k i hi0 hm0 hc hcm hs⟩, [], ⟨?_, ?_, ?_, ?_, ?_⟩, ?_⟩
              · cbv; repeat' apply And.intro
                all_goals first | exact trivial | exact ⟨rfl⟩ | exact noCap | exact ⟨wrap64 (x := m + 1) (by omega) (by omega)⟩
              · cbv; repeat' apply And.intro
                all_goals first | exact trivial | exact fun h => h | exact ⟨rfl⟩ | rfl | exact fun e e' j h _ _ hj => rowL_le e e' j h hj
              · cbv
              · cbv
              · cbv
              · simp only; omega
            · rw [f_not, t_eql] at hcm
              simp only [E.i_f1, E.i_sh] at hcm
              have hfs := stS_facts tm core kind c k i hi0 (n := n) (fun j a b => (hok j a b).1) (m - i).toNat (by omega)
              rw [show i + ((m - i).toNat : Int) = m by omega, ← hs] at hfs
              obtain ⟨hn0, hn1, hto2⟩ := hfs
              have hto3 : s.to < 0 := hto
              have hto1 : s.to = -1 := by omega
              have hown := stS_own tm core kind c k i hi0 hm0 hcm hs hto1
              obtain ⟨n1, hn2⟩ : ∃ z : Int, z = s.n + 1 := ⟨_, rfl⟩
              rw [← hn2] at hown
              have hn3 := add1_i hn2 (by omega) (by omega)
              refine Br.mk (fun hgt => ?_) (fun hgt => ?_)
              · rw [t_gtr] at hgt
                simp only [E.i_sh] at hgt
                refine Ast.mk (by rw [t_leq]; simp only [E.i_sh, E.i_lit]; omega) (Ast.mk (by rw [t_lss]; exact hlt) (Ast.mk (by rw [t_lss]; exact hlt) ?_))
                refine hO2.co (Spec.call (spec_refcloses k (kind m) hk) [] rfl rfl ?_ ?_ (fun out ho => ?_) (fun out ho => ?_))
                · cbv; repeat' apply And.intro
                  all_goals first | exact trivial | exact ⟨rfl⟩ | exact noCap
                · exact trivial
                · rcases ho with ⟨_, rfl⟩ | ⟨_, _, rfl⟩ <;> exact plain_of rfl
                rcases ho with ⟨hx, rfl⟩ | ⟨z, hx, rfl⟩
                · cbv
                  refine Ast.mk (by rw [t_leq]; simp only [E.i_sh, E.i_lit]; omega) (Ast.mk (by rw [t_lss]; exact hlt) (Ast.mk (by rw [t_lss]; exact hlt) ?_))
                  refine ⟨⟨(m + 1, ⟨s.core, s.kind, s.frm, tm m, n1⟩), by simp only; omega, by simp only; omega, by rw [hown, if_pos ⟨hgt, hx⟩]⟩, [], ⟨?_, ?_, ?_, ?_, ?_⟩, ?_⟩
                  · cbv; repeat' apply And.intro
                    all_goals first | exact trivial | exact ⟨rfl⟩ | exact noCap | exact ⟨wrap64 (x := m + 1) (by omega) (by omega)⟩
                  · cbv; repeat' apply And.intro
                    all_goals first | exact trivial | exact fun h => h | exact ⟨rfl⟩ | exact ⟨hn3⟩ | exact ⟨hto1⟩ | rfl | exact fun e e' j h _ _ hj => rowL_le e e' j h hj
                  · cbv
                  · cbv
                  · cbv
                  · simp only; omega
                · cbv
                  refine Br.mk (fun hz => ?_) (fun hz => ?_)
                  · rw [hx] at hz
                    refine Ast.mk (by rw [t_leq]; simp only [E.i_sh, E.i_lit]; omega) (Ast.mk (by rw [t_lss]; exact hlt) (Ast.mk (by rw [t_lss]; exact hlt) ?_))
                    refine ⟨⟨(m + 1, ⟨s.core, s.kind, s.frm, tm m, n1⟩), by simp only; omega, by simp only; omega, by rw [hown, if_pos ⟨hgt, hz⟩]⟩, [], ⟨?_, ?_, ?_, ?_, ?_⟩, ?_⟩
                    · cbv; repeat' apply And.intro
                      all_goals first | exact trivial | exact ⟨rfl⟩ | exact noCap | exact ⟨wrap64 (x := m + 1) (by omega) (by omega)⟩
                    · cbv; repeat' apply And.intro
                      all_goals first | exact trivial | exact fun h => h | exact ⟨rfl⟩ | exact ⟨hn3⟩ | exact ⟨hto1⟩ | rfl | exact fun e e' j h _ _ hj => rowL_le e e' j h hj
                    · cbv
                    · cbv
                    · cbv
                    · simp only; omega
                  · rw [hx] at hz
                    refine ⟨⟨(m + 1, ⟨s.core, s.kind, s.frm, -1, n1⟩), by simp only; omega, by simp only; omega, by rw [hown, if_neg (fun h => by rw [hz] at h; exact absurd h.2 (by decide))]⟩, [], ⟨?_, ?_, ?_, ?_, ?_⟩, ?_⟩
                    · cbv; repeat' apply And.intro
                      all_goals first | exact trivial | exact ⟨rfl⟩ | exact noCap | exact ⟨wrap64 (x := m + 1) (by omega) (by omega)⟩
                    · cbv; repeat' apply And.intro
                      all_goals first | exact trivial | exact fun h => h | exact ⟨rfl⟩ | exact ⟨hn3⟩ | exact ⟨hto1⟩ | rfl | exact fun e e' j h _ _ hj => rowL_le e e' j h hj
                    · cbv
                    · cbv
                    · cbv
                    · simp only; omega
              · rw [f_gtr] at hgt
                simp only [E.i_sh] at hgt
                refine ⟨⟨(m + 1, ⟨s.core, s.kind, s.frm, -1, n1⟩), by simp only; omega, by simp only; omega, by rw [hown, if_neg (fun h => absurd h.1 (by omega))]⟩, [], ⟨?_, ?_, ?_, ?_, ?_⟩, ?_⟩
                · cbv; repeat' apply And.intro
                  all_goals first | exact trivial | exact ⟨rfl⟩ | exact noCap | exact ⟨wrap64 (x := m + 1) (by omega) (by omega)⟩
                · cbv; repeat' apply And.intro
                  all_goals first | exact trivial | exact fun h => h | exact ⟨rfl⟩ | exact ⟨hn3⟩ | exact ⟨hto1⟩ | rfl | exact fun e e' j h _ _ hj => rowL_le e e' j h hj
                · cbv
                · cbv
                · cbv
                · simp only; omega
          · rw [f_lss] at hto
            exact ⟨_, ⟨fun hh => absurd (hop2.symm.trans hh) (by simp), fun _ => ⟨s, st_final tm core kind c k i hi0 hm0 hm hi (.inl hto) hs, rfl⟩⟩, rfl⟩
        · rw [f_lss] at hge
          simp only [E.i_sh] at hge
          exact ⟨_, ⟨fun hh => absurd (hop2.symm.trans hh) (by simp), fun _ => ⟨s, st_final tm core kind c k i hi0 hm0 hm hi (.inr (by omega)) hs, rfl⟩⟩, rfl⟩
theorem spec_from' (hk : k = 0 ∨ k = 1 ∨ k = 2) (hN : n ≤ 300) (hi0 : 0 ≤ i) (hi : i < n) (hok : ∀ j : Int, 0 ≤ j → j < n → okAt tm core kind j) : Spec PP 35 [.sl 0 5 (.c 0) (.sh n) none, .int .i64 (.sh c), .int .i8 (.sh k), .int .i64 (.sh i)] [(0, false, .row 31 5 (.sh n) (rowL tm core kind fk flat))] 1
    (fun out => (opensAt tm core kind c k i.toNat = false ∧ out = .val (.tup [.agg [.int .i64 (.lit 0), .int .i8 (.lit 0), .int .i64 (.lit 0), .int .i64 (.lit 0), .int .i64 (.lit 0)], .bool (.bl false)])) ∨
      ∃ s, opensAt tm core kind c k i.toNat = true ∧ s = refS tm core kind c k i.toNat (n - 1 - i).toNat ∧ out = .val (.tup [.agg [.int .i64 (.sh s.core), .int .i8 (.sh s.kind), .int .i64 (.sh s.frm), .int .i64 (.sh s.to), .int .i64 (.sh s.n)], .bool (.bl true)])) :=
  (spec_from n tm core kind fk flat c k i hk hN hi0 hi hok).mono fun out h => by
    cases hop : opensAt tm core kind c k i.toNat with
    | false => exact .inl ⟨rfl, h.1 hop⟩
    | true => obtain ⟨s, h1, h2⟩ := h.2 hop; exact .inr ⟨s, rfl, h1, h2⟩
end
end Go.Sx
