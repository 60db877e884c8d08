import Derived.Test.YtpkapjlcmoikoaaSpRl
import Derived.Test.YtpkapjlcmoikoaaSpK
set_option linter.all false
/-
  The reference's Longest.
-/
namespace Go.Sx
open Go
def Xf21 : Cfg := ⟨[21], [18], false⟩
set_option maxRecDepth 100000
set_option maxHeartbeats 4000000
set_option linter.all false
section
variable (n kd : Int) (tm core kind fk flat : Int → Int)
theorem spec_reflongest (h0 : 0 ≤ n) (hN : n ≤ 300) (hmay : mayB n tm core kind = true) (hr : ∀ i, 0 ≤ i → i < n → tm i < 9223372036854775808) : Spec PP 21 [.sl 0 5 (.c 0) (.sh n) none, .int .i8 (.sh kd)] [(0, false, .row 31 5 (.sh n) (rowL tm core kind fk flat))] 1
    (fun out => ∃ b, b = longF kd (allSp tm core kind (fun c => decide (c ∈ eights)) n.toNat) ∧ out = .val (.tup [.agg [.int .i64 (.sh b.1.core), .int .i8 (.sh b.1.kind), .int .i64 (.sh b.1.frm), .int .i64 (.sh b.1.to), .int .i64 (.sh b.1.n)], .bool (.bs b.2)])) := by
  intro C
  refine CallOb.of_run (X := Xf21) m1 (by decide +kernel) (by decide +kernel) 3000 fun O hO => ?_
  have hok := (mayB_iff n _ _ _).1 hmay
  cbv
  refine hO.co (Spec.call (spec_refall n tm core kind fk flat eights h0 hN hmay (by simp [eights]) 8 rfl) [.of 0, .of 2] rfl rfl ?_ ?_ (fun out ho => ?_) (fun out ho => ?_))
  · cbv; repeat' apply And.intro
    all_goals first | exact trivial | exact ⟨rfl⟩ | exact noCap
  · exact ⟨⟨(fun h => by cases h), ints_row rfl rfl fun i hi => match i, hi with
      | 0, _ | 1, _ | 2, _ | 3, _ | 4, _ | 5, _ | 6, _ | 7, _ => ⟨_, rfl, rfl⟩⟩, ⟨fun h => h, rfl, ⟨rfl⟩, fun e e' j h _ _ hj => rowL_le e e' j h hj⟩, trivial⟩
  · obtain ⟨len, M, _, _, rfl⟩ := ho; exact all_plain
  obtain ⟨len, M, hMl, hlen, rfl⟩ := ho
  have hmem : ∀ s ∈ M, MemOk s := by
    rw [hMl]
    exact mem_ok hok hr eights (by decide) _ fun c => by rw [decide_eq_true_eq]
  rw [← hMl]
  have hlen0 : 0 ≤ len := by omega
  have hltM : ∀ i : Int, 0 ≤ i → i < len → i < M.length := fun i _ _ => by omega
  have hall : ∀ i : Int, i = len → M.take i.toNat = M := fun i h => List.take_of_length_le (by omega)
  have hlen3 : len ≤ 4611686018427387904 := by
    have := all_len tm core kind eights n M (by rw [hMl])
    omega
  clear hlen
  cbv
  refine hO.lo (loop_rule' (ι := { y : Int × Sp × Bool // 0 ≤ y.1 ∧ y.1 ≤ len ∧ (y.2.1, y.2.2) = longF kd (M.take y.1.toNat) })
    (fun st y => ⟨liveK st.tmps [0, 1, 4, 5, 6, 7, 8] [(9, .bool (.bs y.1.2.2)), (10, .int .i64 (.sh y.1.1))],
      [(4, true, .cells 33 [.int .i64 (.sh y.1.2.1.core), .int .i8 (.sh y.1.2.1.kind), .int .i64 (.sh y.1.2.1.frm), .int .i64 (.sh y.1.2.1.to), .int .i64 (.sh y.1.2.1.n)]), (3, true, .row 33 5 (.sh len) (spF M))] ++ keepH [1] st.heap, 5, []⟩)
    (fun y => (len - y.1.1).toNat) ⟨(0, default, false), by simp, by simpa using hlen0, by simp [longF]⟩ [] ?_ (fun h hh => by cases hh) (fun _ => rfl) fun y => ?_)
  · constructor
    · cbv; repeat' apply And.intro
      all_goals first | exact trivial | exact ⟨rfl⟩ | exact noCap
    · cbv; repeat' apply And.intro
      all_goals first | exact trivial | exact fun h => h | exact ⟨rfl⟩ | exact noCap | rfl | exact fun e e' j h _ _ hj => rowL_le e e' j h hj | exact fun e e' j h _ _ hj => spF_le e e' j h hj
    · cbv
    · cbv
    · cbv
  · obtain ⟨⟨i, b, f⟩, hi0, hi, hb⟩ := y
    simp only at hi0 hi hb
    have hL : LongIs kd M (b, f) := by
      have := longF_is kd (M.take i.toNat)
      rw [← hb] at this
      exact ⟨this.no, fun h => ⟨List.mem_of_mem_take (this.yes h).1, (this.yes h).2⟩⟩
    have hstep : i < M.length → ∀ c, c = longStep kd (b, f) (M.getD i.toNat default) → c = longF kd (M.take (i + 1).toNat) := fun h c hc => by rw [longF_succ hi0 h, ← hb, hc]
    have hs : i < M.length → MemOk (M.getD i.toNat default) := fun h => by
      have hp : i.toNat < M.length := by omega
      rw [getD_get _ _ hp]
      exact hmem _ (List.getElem_mem hp)
    have hltM := hltM i hi0
    refine (?_ : ∀ s, s = M.getD i.toNat default → _) _ rfl
    intro s hsd
    rw [← hsd] at hs hstep
    have hstep : i < len → _ := fun h => hstep (hltM h)
    have hs : i < len → _ := fun h => hs (hltM h)
    have g1 : (M.getD i.toNat default).core = s.core := by rw [hsd]
    have g2 : (M.getD i.toNat default).kind = s.kind := by rw [hsd]
    have g3 : (M.getD i.toNat default).frm = s.frm := by rw [hsd]
    have g4 : (M.getD i.toNat default).to = s.to := by rw [hsd]
    have g5 : (M.getD i.toNat default).n = s.n := by rw [hsd]
    cases f with
    | false =>
      refine Snd.of_runP (X := Xf21) (fun _ => none) (knOf [41] []) m1 (by decide +kernel) (by decide +kernel) 3000 (by decide +kernel) fun O1 hO1 => ?_
      cbv
      refine Br.mk (fun hlt => ?_) (fun hge => ?_)
      · rw [t_lss] at hlt
        simp only [E.i_sh] at hlt
        have hs := hs hlt
        have hstep := hstep hlt
        refine Ast.mk (by rw [t_leq]; exact hi0) (Ast.mk (by rw [t_lss]; exact hlt) (Ast.mk (by rw [t_lss]; exact hlt) ?_))
        refine Br.mk (fun hk => ?_) (fun hk => ?_)
        · rw [t_eql] at hk
          refine Br.mk (fun ht => ?_) (fun ht => ?_)
          · rw [t_geq] at ht
            refine KnownAs.mk rfl ?_
            refine ⟨⟨(i + 1, s, true), by simp only; omega, by simp only; omega, hstep _ (lstep_first (by rw [← g2]; exact hk) (by rw [← g4]; exact ht))⟩, [], ⟨?_, ?_, ?_, ?_, ?_⟩, ?_⟩
            · cbv; repeat' apply And.intro
              all_goals first | exact trivial | exact ⟨rfl⟩ | exact noCap | exact ⟨wrap64 (x := i + 1) (by omega) (by omega)⟩
            · cbv; repeat' apply And.intro
              all_goals first | exact trivial | exact fun h => h | exact ⟨rfl⟩ | exact noCap | rfl | exact fun e e' j h _ _ hj => rowL_le e e' j h hj | exact fun e e' j h _ _ hj => spF_le e e' j h hj | exact ⟨g1⟩ | exact ⟨g2⟩ | exact ⟨g3⟩ | exact ⟨g4⟩ | exact ⟨g5⟩
            · cbv
            · cbv
            · cbv
            · simp only; omega
          · rw [f_geq] at ht
            refine ⟨⟨(i + 1, b, false), by simp only; omega, by simp only; omega, hstep _ (lstep_open (by rw [← g4]; exact ht))⟩, [], ⟨?_, ?_, ?_, ?_, ?_⟩, ?_⟩
            · cbv; repeat' apply And.intro
              all_goals first | exact trivial | exact ⟨rfl⟩ | exact noCap | exact ⟨wrap64 (x := i + 1) (by omega) (by omega)⟩
            · cbv; repeat' apply And.intro
              all_goals first | exact trivial | exact fun h => h | exact ⟨rfl⟩ | exact noCap | rfl | exact fun e e' j h _ _ hj => rowL_le e e' j h hj | exact fun e e' j h _ _ hj => spF_le e e' j h hj | exact ⟨g1⟩ | exact ⟨g2⟩ | exact ⟨g3⟩ | exact ⟨g4⟩ | exact ⟨g5⟩
            · cbv
            · cbv
            · cbv
            · simp only; omega
        · rw [f_eql] at hk
          refine ⟨⟨(i + 1, b, false), by simp only; omega, by simp only; omega, hstep _ (lstep_kind (by rw [← g2]; exact hk))⟩, [], ⟨?_, ?_, ?_, ?_, ?_⟩, ?_⟩
          · cbv; repeat' apply And.intro
            all_goals first | exact trivial | exact ⟨rfl⟩ | exact noCap | exact ⟨wrap64 (x := i + 1) (by omega) (by omega)⟩
          · cbv; repeat' apply And.intro
            all_goals first | exact trivial | exact fun h => h | exact ⟨rfl⟩ | exact noCap | rfl | exact fun e e' j h _ _ hj => rowL_le e e' j h hj | exact fun e e' j h _ _ hj => spF_le e e' j h hj | exact ⟨g1⟩ | exact ⟨g2⟩ | exact ⟨g3⟩ | exact ⟨g4⟩ | exact ⟨g5⟩
          · cbv
          · cbv
          · cbv
          · simp only; omega
      · rw [f_lss] at hge
        simp only [E.i_sh] at hge
        exact ⟨_, ⟨(b, false), by rw [hb, hall i (by omega)], rfl⟩, rfl⟩
    | true =>
      refine Snd.of_runP (X := Xf21) (fun _ => none) (knOf [] [41]) m1 (by decide +kernel) (by decide +kernel) 3000 (by decide +kernel) fun O1 hO1 => ?_
      cbv
      refine Br.mk (fun hlt => ?_) (fun hge => ?_)
      · rw [t_lss] at hlt
        simp only [E.i_sh] at hlt
        have hs := hs hlt
        have hstep := hstep hlt
        refine Ast.mk (by rw [t_leq]; exact hi0) (Ast.mk (by rw [t_lss]; exact hlt) (Ast.mk (by rw [t_lss]; exact hlt) ?_))
        refine Br.mk (fun hk => ?_) (fun hk => ?_)
        · rw [t_eql] at hk
          refine Br.mk (fun ht => ?_) (fun ht => ?_)
          · rw [t_geq] at ht
            refine KnownAs.mk rfl ?_
            have hbm := hmem _ (hL.yes rfl).1
            refine Br.mk (fun hg => ?_) (fun hg => ?_)
            · rw [t_gtr, i_sub, i_sub] at hg
              have hg := lsub hbm hs (hL.yes rfl).2 (by rw [← g4]; exact ht) g3 g4 hg
              refine ⟨⟨(i + 1, s, true), by simp only; omega, by simp only; omega, hstep _ (lstep_more (by rw [← g2]; exact hk) (by rw [← g4]; exact ht) hg)⟩, [], ⟨?_, ?_, ?_, ?_, ?_⟩, ?_⟩
              · cbv; repeat' apply And.intro
                all_goals first | exact trivial | exact ⟨rfl⟩ | exact noCap | exact ⟨wrap64 (x := i + 1) (by omega) (by omega)⟩
              · cbv; repeat' apply And.intro
                all_goals first | exact trivial | exact fun h => h | exact ⟨rfl⟩ | exact noCap | rfl | exact fun e e' j h _ _ hj => rowL_le e e' j h hj | exact fun e e' j h _ _ hj => spF_le e e' j h hj | exact ⟨g1⟩ | exact ⟨g2⟩ | exact ⟨g3⟩ | exact ⟨g4⟩ | exact ⟨g5⟩
              · cbv
              · cbv
              · cbv
              · simp only; omega
            · rw [f_gtr, i_sub, i_sub] at hg
              have hg := lsub' hbm hs (hL.yes rfl).2 (by rw [← g4]; exact ht) g3 g4 hg
              refine ⟨⟨(i + 1, b, true), by simp only; omega, by simp only; omega, hstep _ (lstep_less hg)⟩, [], ⟨?_, ?_, ?_, ?_, ?_⟩, ?_⟩
              · cbv; repeat' apply And.intro
                all_goals first | exact trivial | exact ⟨rfl⟩ | exact noCap | exact ⟨wrap64 (x := i + 1) (by omega) (by omega)⟩
              · cbv; repeat' apply And.intro
                all_goals first | exact trivial | exact fun h => h | exact ⟨rfl⟩ | exact noCap | rfl | exact fun e e' j h _ _ hj => rowL_le e e' j h hj | exact fun e e' j h _ _ hj => spF_le e e' j h hj | exact ⟨g1⟩ | exact ⟨g2⟩ | exact ⟨g3⟩ | exact ⟨g4⟩ | exact ⟨g5⟩
              · cbv
              · cbv
              · cbv
              · simp only; omega
          · rw [f_geq] at ht
            refine ⟨⟨(i + 1, b, true), by simp only; omega, by simp only; omega, hstep _ (lstep_open (by rw [← g4]; exact ht))⟩, [], ⟨?_, ?_, ?_, ?_, ?_⟩, ?_⟩
            · cbv; repeat' apply And.intro
              all_goals first | exact trivial | exact ⟨rfl⟩ | exact noCap | exact ⟨wrap64 (x := i + 1) (by omega) (by omega)⟩
            · cbv; repeat' apply And.intro
              all_goals first | exact trivial | exact fun h => h | exact ⟨rfl⟩ | exact noCap | rfl | exact fun e e' j h _ _ hj => rowL_le e e' j h hj | exact fun e e' j h _ _ hj => spF_le e e' j h hj | exact ⟨g1⟩ | exact ⟨g2⟩ | exact ⟨g3⟩ | exact ⟨g4⟩ | exact ⟨g5⟩
            · cbv
            · cbv
            · cbv
            · simp only; omega
        · rw [f_eql] at hk
          refine ⟨⟨(i + 1, b, true), by simp only; omega, by simp only; omega, hstep _ (lstep_kind (by rw [← g2]; exact hk))⟩, [], ⟨?_, ?_, ?_, ?_, ?_⟩, ?_⟩
          · cbv; repeat' apply And.intro
            all_goals first | exact trivial | exact ⟨rfl⟩ | exact noCap | exact ⟨wrap64 (x := i + 1) (by omega) (by omega)⟩
          · cbv; repeat' apply And.intro
            all_goals first | exact trivial | exact fun h => h | exact ⟨rfl⟩ | exact noCap | rfl | exact fun e e' j h _ _ hj => rowL_le e e' j h hj | exact fun e e' j h _ _ hj => spF_le e e' j h hj | exact ⟨g1⟩ | exact ⟨g2⟩ | exact ⟨g3⟩ | exact ⟨g4⟩ | exact ⟨g5⟩
          · cbv
          · cbv
          · cbv
          · simp only; omega
      · rw [f_lss] at hge
        simp only [E.i_sh] at hge
        exact ⟨_, ⟨(b, true), by rw [hb, hall i (by omega)], rfl⟩, rfl⟩
end
end Go.Sx
