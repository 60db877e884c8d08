import Derived.Test.YtpkapjlcmoikoaaSpE
import Derived.Test.YtpkapjlcmoikoaaSpI
import Derived.Test.YtpkapjlcmoikoaaSpP
import Derived.Lib.RowBridge
set_option linter.all false
namespace Go.Sx
open Go
def Xall : Cfg := ⟨[12, 27, 30, 32, 40, 41, 57, 72, 73, 74, 75, 76, 77], [10, 23, 28, 29, 31], false⟩
set_option maxRecDepth 100000
set_option maxHeartbeats 4000000
set_option linter.all false

section
variable (n N : Int) (tm core kind fk flat : Int → Int) (xs : List Int)
theorem spec_all (h0 : 0 ≤ n) (h1 : n ≤ N) (hN : N ≤ 1000) (hm0 : 0 < xs.length) (hm : xs.length ≤ 50) (hmay : mayB n tm core kind = true) (hr : ∀ i, 0 ≤ i → i < n → tm i < 9223372036854775808) : ∀ m : Int, m = xs.length → Spec PP 12 [.sl 0 5 (.c 0) (.sh n) none, .sl 1 1 (.c 0) (.sh m) none] [(1, false, .row 3 1 (.sh m) (intRow (listI xs))), (0, false, .row 31 5 (.sh N) (rowL tm core kind fk flat))] 2
    (fun out => ∃ len M, AllIs tm core kind xs n len M ∧ out = .row (fun h => .tup [.sl h 5 (.c 0) (.sh len) none, .int .i64 (.lit 0)]) 33 5 (.sh len) (spF M)) := by
  intro m hmx C
  have hm1 : 0 < m := by omega
  have hm2 : m ≤ 50 := by omega
  refine CallOb.of_run (X := Xall) m1 (by decide +kernel) (by decide +kernel) 3000 fun O hO => ?_
  cbv
  refine hO.co (Spec.call (spec_may n tm core kind fk flat 0 N (Int.le_refl _) h0 (by omega) (by omega)) [.of 0] rfl rfl ?_ ?_ (fun out ho => ?_) (fun out ho => ?_))
  · cbv; repeat' apply And.intro
    all_goals first | exact trivial | exact ⟨rfl⟩ | exact noCap | exact Int.le_refl _
  · cbv; exact ⟨⟨fun h => h, ⟨rfl⟩, fun e e' j h _ _ hj => rowL_le e e' j h hj⟩, trivial⟩
  · subst ho; exact plain_of rfl
  · subst ho
    simp only [Int.zero_add]
    rw [hmay]
    have hok := (mayB_iff n _ _ _).1 hmay
    cbv
    refine Ast.mk (by rw [t_lss]; simp only [E.i_lit, E.i_sh]; omega) (Ast.mk (by rw [t_leq]; exact Int.le_refl _) (Ast.mk (by rw [t_leq]; simp only [E.i_lit, E.i_sh, Int.ofNat_eq_natCast]; omega) ?_))
    obtain ⟨ys, hys⟩ : ∃ ys : List Int, ys = xs.mergeSort fun x y => decide (x ≤ y) := ⟨_, rfl⟩
    have hyl : m = ys.length := by rw [hys, List.length_mergeSort]; exact hmx
    obtain ⟨zs, hzs⟩ : ∃ zs : List Int, zs = Lib.compact ys := ⟨_, rfl⟩
    have hy2 : ys.length < 4611686018427387904 := by rw [hys, List.length_mergeSort]; omega
    have hz2 : zs.length ≤ ys.length := by rw [hzs]; exact Lib.compact_length_le ys
    obtain ⟨q, hq⟩ : ∃ q : Int, q = zs.length := ⟨_, rfl⟩
    have hq0 : 0 ≤ q := by omega
    have hz3 : zs.length ≤ 50 := by omega
    have hqz : q ≤ zs.length := by omega
    have hq1 : q ≤ 50 := by omega
    have hqm : q ≤ m := by rw [hyl]; omega
    refine hO.co (CallOb.le [] (args' := [.sl 4 1 (.c 0) (.sh m) none]) (H' := [(4, true, .row 3 1 (.sh m) (intRow (listI xs))), (2, true, .cells 24 [.lit (.slice none 0 0)]), (0, false, .row 31 5 (.sh N) (rowL tm core kind fk flat))]) (nx' := 5) ⟨?_, ?_, ?_, ?_, ?_⟩ (sort_ints rfl hmx (by omega) hys ?_))
    · cbv; repeat' apply And.intro
      all_goals first | exact trivial | exact ⟨rfl⟩ | exact noCap
    · refine ⟨⟨fun h => h, rfl, ⟨rfl⟩, fun e e' j h _ _ hj => ⟨rfl, ⟨?_⟩⟩⟩, ⟨fun h => h, ⟨rfl, trivial⟩⟩, ⟨fun h => h, rfl, ⟨rfl⟩, fun e e' j h _ _ hj => rowL_le e e' j h hj⟩, trivial⟩
      rw [E.i_f1, E.i_f1, plus'_i, ← h, E.i_lit]
      simp
    · cbv
    · cbv
    · cbv
    cbv
    refine hO.co (compact_ints rfl hyl hy2 hzs hq hz2 ?_)
    cbv
    refine hO.lo (loop_rule (ι := { x : Int × Int × List Sp // 0 ≤ x.1 ∧ x.1 ≤ q ∧ x.2.2 = rowOf tm core kind n (zs.take x.1.toNat) ∧ x.2.1 = x.2.2.length })
      (fun x => ⟨live 35 [(0, .sl 0 5 (.c 0) (.sh n) none), (4, .ptr 2 (.c 0)), (5, .int .i64 (.lit 0)), (17, .sl 4 1 (.c 0) (.sh q) none), (18, .int .i64 (.sh q)), (19, .int .i64 (.sh x.1.1))],
        [(5, true, .row 33 5 (.sh x.1.2.1) (spF x.1.2.2)), (4, true, .row 3 1 (.sh m) (intRow (listI zs))), (2, true, .cells 24 [.sl 5 5 (.c 0) (.sh x.1.2.1) none]), (0, false, .row 31 5 (.sh N) (rowL tm core kind fk flat))], 6, []⟩)
      (fun x => (q - x.1.1).toNat) ⟨(0, 0, []), by simp, by simpa using hq0, by simp [rowOf], by simp⟩ [.nil] ?_ (fun h hh => by cases hh) (fun _ => rfl) fun x => ?_)
    · constructor
      · cbv; repeat' apply And.intro
        all_goals first | exact trivial | exact ⟨rfl⟩ | exact noCap
      · refine ⟨⟨rfl⟩, ⟨fun h => h, rfl, ⟨rfl⟩, fun e e' j h _ _ hj => ⟨rfl, ⟨by rw [E.i_f1, E.i_f1, h]⟩⟩⟩, ⟨fun h => h, ⟨⟨rfl, rfl, ⟨rfl⟩, noCap, trivial⟩, trivial⟩⟩, ⟨fun h => h, rfl, ⟨rfl⟩, fun e e' j h _ _ hj => rowL_le e e' j h hj⟩, trivial⟩
      · cbv
      · cbv
      · cbv
    · refine Snd.of_run (X := Xall) m1 (by decide +kernel) (by decide +kernel) 3000 (by decide +kernel) fun O' hO' => ?_
      obtain ⟨⟨i, len, L⟩, hi0, hi, hL, hlen⟩ := x
      simp only at hi0 hi hL hlen
      have hlen1 : 0 ≤ len ∧ len ≤ 150000 := by
        have e1 := rowOf_len tm core kind (n := n) (by omega) (zs.take i.toNat)
        have e2 : (zs.take i.toNat).length ≤ zs.length := by simp; omega
        rw [← hL] at e1
        omega
      have hlenN : L.length < 4611686018427387904 := by omega
      cbv
      refine Br.mk (fun hlt => ?_) (fun hge => ?_)
      · rw [t_lss] at hlt
        simp only [E.i_sh] at hlt
        refine Ast.mk (by rw [t_leq]; exact hi0) (Ast.mk (by rw [t_lss]; exact hlt) (Ast.mk (by rw [t_lss]; simp only [E.i_sh]; omega) ?_))
        refine hO'.lo (loop_rule' (ι := { x : Int × Int × List Sp × Int × Int × Int // BookAt tm core kind (listI zs i) n x })
          (fun st x => ⟨liveK st.tmps [0, 1, 2, 4, 11, 12] [(13, .int .i64 (.sh x.1.1))],
            (9, true, .cells 69 [.sl 10 5 (.c 0) (.sh x.1.2.1) none, .int .i64 (.sh x.1.2.2.2.1), .int .i64 (.sh x.1.2.2.2.2.1), .int .i64 (.sh x.1.2.2.2.2.2)]) :: (10, true, .row 33 5 (.sh x.1.2.1) (spF x.1.2.2.1)) ::
            (5, true, .row 33 5 (.sh len) (spF L)) :: (4, true, .row 3 1 (.sh m) (intRow (listI zs))) :: (0, false, .row 31 5 (.sh N) (rowL tm core kind fk flat)) :: keepH [8, 7, 6, 2] st.heap, 11, []⟩)
          (fun x => (n - x.1.1).toNat) ⟨(0, 0, [], 0, 0, 0), bookAt_nil h0⟩ [.nil] ?_ (fun h hh => by cases hh) (fun _ => rfl) fun x => ?_)
        · constructor
          · cbv; repeat' apply And.intro
            all_goals first | exact trivial | exact ⟨rfl⟩ | exact noCap
          · cbv; repeat' apply And.intro
            all_goals first | exact trivial | exact fun h => h | exact ⟨rfl⟩ | exact noCap | rfl | exact fun e e' j h _ _ hj => rowL_le e e' j h hj | exact fun e e' j h _ _ hj => spF_le e e' j h hj | exact fun e e' j h _ _ hj => intRow_le e e' j h hj | exact hi0
          · cbv
          · cbv
          · cbv
        · refine Snd.of_run (X := Xall) m1 (by decide +kernel) (by decide +kernel) 3000 (by decide +kernel) fun O2 hO2 => ?_
          obtain ⟨⟨j, ln, S, o0, o1, o2⟩, hB⟩ := x
          have hj0 : 0 ≤ j := hB.j0
          have hj : j ≤ n := hB.j1
          have hln : ln = S.length := hB.bk.len
          have hln0 : 0 ≤ ln := by omega
          have hln1 : ln ≤ 3 * j := hB.bk.lb
          cbv
          refine Br.mk (fun hlt2 => ?_) (fun hge2 => ?_)
          · rw [t_lss] at hlt2
            simp only [E.i_sh] at hlt2
            refine Ast.mk (by rw [t_leq]; exact hj0) (Ast.mk (by rw [t_lss]; exact hlt2) (Ast.mk (by rw [t_lss]; simp only [E.i_sh]; omega) ?_))
            refine Br.mk (fun heq => ?_) (fun hne => ?_)
            · rw [t_eql] at heq
              simp only [E.i_sh, E.i_f1] at heq
              have htm : tm j ≠ -1 := by have := (hok j hj0 hlt2).1; omega
              refine hO2.lo (loop_rule' (ι := { x : Int × Int × List Sp × Int × Int × Int // StageAt (listI zs i) (kind j) (tm j) j S x })
                (fun st x => ⟨liveK st.tmps [0, 3, 4, 5] [(14, .int .i64 (.lit x.1.1))],
                  (9, true, .cells 69 [.sl 17 5 (.c 0) (.sh x.1.2.1) none, .int .i64 (.sh x.1.2.2.2.1), .int .i64 (.sh x.1.2.2.2.2.1), .int .i64 (.sh x.1.2.2.2.2.2)]) :: (17, true, .row 33 5 (.sh x.1.2.1) (spF x.1.2.2.1)) ::
                  (5, true, .row 33 5 (.sh len) (spF L)) :: (4, true, .row 3 1 (.sh m) (intRow (listI zs))) :: (0, false, .row 31 5 (.sh N) (rowL tm core kind fk flat)) :: keepH [16, 15, 14, 13, 12, 11, 8, 7, 6, 2] st.heap, 18, []⟩)
                (fun x => (3 - x.1.1).toNat) ⟨(0, ln, S, o0, o1, o2), stage_start hB⟩ [.of 10] ?_ (fun h hh => by cases hh) (fun _ => rfl) fun x => ?_)
              · constructor
                · cbv; repeat' apply And.intro
                  all_goals first | exact trivial | exact ⟨rfl⟩ | exact noCap
                · cbv; repeat' apply And.intro
                  all_goals first | exact trivial | exact fun h => h | exact ⟨rfl⟩ | exact noCap | rfl | exact fun e e' j h _ _ hj => rowL_le e e' j h hj | exact fun e e' j h _ _ hj => spF_le e e' j h hj | exact fun e e' j h _ _ hj => intRow_le e e' j h hj | exact hi0
                · cbv
                · cbv
                · cbv
              · refine Snd.of_run (X := Xall) m1 (by decide +kernel) (by decide +kernel) 3000 (by decide +kernel) fun O3 hO3 => ?_
                obtain ⟨⟨k, l2, S2, p0, p1, p2⟩, hk, hK⟩ := x
                simp only at hk hK
                rcases hk with rfl | rfl | rfl | rfl
                · refine bk_cps0 (c := listI zs i) (kd := kind j) (t := tm j) hK (by omega) htm fun l' S' p' hK' hst => ?_
                  cbv
                  refine Br.mk (fun hp => ?_) (fun hp => ?_)
                  · rw [t_eql] at hp
                    simp only [E.i_sh, E.i_lit] at hp
                    refine Br.mk (fun hkd => ?_) (fun hkd => ?_)
                    · rw [t_eql] at hkd
                      simp only [E.i_f1, E.i_sh, E.i_lit] at hkd
                      refine Ast.mk (by rw [t_leq]; exact Int.le_refl _) (Ast.mk ?_ ?_)
                      · rw [t_leq]
                        have h3 := hK.lb
                        simp only [E.i_plus, E.i_sh, E.i_lit, Int.ofNat_eq_natCast] at h3 ⊢
                        omega
                      · cases hst with
                        | none _ ho => exfalso; rw [hkd] at ho; revert ho; decide
                        | upd hp1 => exact absurd hp hp1
                        | new _ _ hS hl hp' =>
                        refine ⟨⟨(1, l', S', p', p1, p2), stage_mk0 hK'⟩, [.of 19], ⟨?_, ?_, ?_, ?_, ?_⟩, by simp⟩
                        · cbv; repeat' apply And.intro
                          all_goals first | exact trivial | exact ⟨rfl⟩ | exact noCap
                        · cbv; repeat' apply And.intro
                          all_goals first | exact trivial | exact fun h => h | exact ⟨rfl⟩ | exact noCap | rfl | exact ⟨hl.symm⟩ | exact ⟨hp'.symm⟩ | exact fun e e' j h _ _ hj => rowL_le e e' j h hj | exact fun e e' j h _ _ hj => spF_le e e' j h hj | exact fun e e' j h _ _ hj => intRow_le e e' j h hj | exact hi0 | (rw [hS]; exact snoc_le (z := .lit (Int.ofNat 0)) (n := .sh l2) (n' := .plus (.sh l2) (.lit (Int.ofNat 1))) rfl hK.len (congrArg (· + 1) hK.len) heq rfl rfl rfl rfl)
                        · cbv
                        · cbv
                        · cbv
                    · rw [f_eql] at hkd
                      simp only [E.i_f1, E.i_sh, E.i_lit] at hkd
                      cases hst with
                      | new _ ho => exfalso; simp [opensK] at ho; exact hkd ho
                      | upd hp1 => exact absurd hp hp1
                      | none _ _ hS hl hp' =>
                      refine ⟨⟨(1, l', S', p', p1, p2), stage_mk0 hK'⟩, [.of 17], ⟨?_, ?_, ?_, ?_, ?_⟩, by simp⟩
                      · cbv; repeat' apply And.intro
                        all_goals first | exact trivial | exact ⟨rfl⟩ | exact noCap
                      · cbv; repeat' apply And.intro
                        all_goals first | exact trivial | exact fun h => h | exact ⟨rfl⟩ | exact noCap | rfl | exact ⟨hl.symm⟩ | exact ⟨hp.trans hp'.symm⟩ | exact fun e e' j h _ _ hj => rowL_le e e' j h hj | exact fun e e' j h _ _ hj => spF_le e e' j h hj | exact fun e e' j h _ _ hj => intRow_le e e' j h hj | exact hi0 | (rw [hS]; exact fun e e' j h _ _ hj => spF_le e e' j h hj)
                      · cbv
                      · cbv
                      · cbv
                  · rw [f_eql] at hp
                    simp only [E.i_sh, E.i_lit] at hp
                    obtain ⟨f1, f2, f3, f4, f5, f6, f7⟩ := open_facts hK.o0 hp hK.len hK.nb
                    simp only at f1 f2 f3 f4 f5 f6 f7
                    have hl1 := hK.lb
                    simp only at hl1
                    have hw0 : IntKind.i64.wrap (p0 - 1) = p0 - 1 := wrap64 (by omega) (by omega)
                    repeat' (first | refine Br.mk (fun _ => ?_) (fun _ => ?_) | refine Ast.mk ?_ ?_)
                    all_goals simp only [t_lss, f_lss, t_leq, t_not, f_not, t_eql, f_eql, E.i_sh, E.i_lit, E.i_f1, E.i_plus, i_add, i_sub, hw0, Int.ofNat_eq_natCast] at *
                    all_goals try omega
                    all_goals have hw : IntKind.i64.wrap (p0 - 1) = p0 - 1 := wrap64 (by omega) (by omega)
                    all_goals have hv : IntKind.i64.wrap ((S2.getD (IntKind.i64.wrap (p0 - 1)).toNat default).n + 1) = (S2.getD (p0 - 1).toNat default).n + 1 := by rw [hw, wrap64 (by omega) (by omega)]
                    · cases hst with
                      | new hp1 => exact absurd hp1 hp
                      | none hp1 => exact absurd hp1 hp
                      | upd _ hS hl hp' =>
                      have hcl : closesK 0 (kind j) = true := by simp [closesK, *]
                      rw [hcl] at hp'
                      simp only [if_true, if_false, Bool.false_eq_true] at hp'
                      refine ⟨⟨(1, l', S', p', p1, p2), stage_mk0 hK'⟩, [.of 17], ⟨?_, ?_, ?_, ?_, ?_⟩, by simp⟩
                      · cbv; repeat' apply And.intro
                        all_goals first | exact trivial | exact ⟨rfl⟩ | exact noCap
                      · cbv; repeat' apply And.intro
                        all_goals first | exact trivial | exact fun h => h | exact ⟨rfl⟩ | exact noCap | rfl | exact ⟨hl.symm⟩ | exact ⟨hp'.symm⟩ | exact fun e e' j h _ _ hj => rowL_le e e' j h hj | exact fun e e' j h _ _ hj => spF_le e e' j h hj | exact fun e e' j h _ _ hj => intRow_le e e' j h hj | exact hi0 | exact put2_le (S2 := S2) (S' := S') (l2 := l2) (p := p0) (kd := kind j) (t := tm j) hK.len hw hw f1 f3 f4 hv rfl (by rw [f5]; exact hcl) hS
                      · cbv
                      · cbv
                      · cbv
                    · cases hst with
                      | new hp1 => exact absurd hp1 hp
                      | none hp1 => exact absurd hp1 hp
                      | upd _ hS hl hp' =>
                      have hcl : closesK 0 (kind j) = false := by simp [closesK, *]
                      rw [hcl] at hp'
                      simp only [if_true, if_false, Bool.false_eq_true] at hp'
                      refine ⟨⟨(1, l', S', p', p1, p2), stage_mk0 hK'⟩, [.of 17], ⟨?_, ?_, ?_, ?_, ?_⟩, by simp⟩
                      · cbv; repeat' apply And.intro
                        all_goals first | exact trivial | exact ⟨rfl⟩ | exact noCap
                      · cbv; repeat' apply And.intro
                        all_goals first | exact trivial | exact fun h => h | exact ⟨rfl⟩ | exact noCap | rfl | exact ⟨hl.symm⟩ | exact ⟨hp'.symm⟩ | exact fun e e' j h _ _ hj => rowL_le e e' j h hj | exact fun e e' j h _ _ hj => spF_le e e' j h hj | exact fun e e' j h _ _ hj => intRow_le e e' j h hj | exact hi0 | exact put1_le (S2 := S2) (S' := S') (l2 := l2) (p := p0) (kd := kind j) (t := tm j) hK.len hw f1 f3 f4 hv (by rw [f5]; exact hcl) hS
                      · cbv
                      · cbv
                      · cbv
                · refine bk_cps1 (c := listI zs i) (kd := kind j) (t := tm j) hK (by omega) htm fun l' S' p' hK' hst => ?_
                  cbv
                  refine Br.mk (fun hp => ?_) (fun hp => ?_)
                  · rw [t_eql] at hp
                    simp only [E.i_sh, E.i_lit] at hp
                    refine Br.mk (fun hkd => ?_) (fun hkd => ?_)
                    · rw [t_eql] at hkd
                      simp only [E.i_f1, E.i_sh, E.i_lit] at hkd
                      refine Ast.mk (by rw [t_leq]; exact Int.le_refl _) (Ast.mk ?_ ?_)
                      · rw [t_leq]
                        have h3 := hK.lb
                        simp only [E.i_plus, E.i_sh, E.i_lit, Int.ofNat_eq_natCast] at h3 ⊢
                        omega
                      · cases hst with
                        | none _ ho => exfalso; rw [hkd] at ho; revert ho; decide
                        | upd hp1 => exact absurd hp hp1
                        | new _ _ hS hl hp' =>
                        refine ⟨⟨(2, l', S', p0, p', p2), stage_mk1 hK'⟩, [.of 19], ⟨?_, ?_, ?_, ?_, ?_⟩, by simp⟩
                        · cbv; repeat' apply And.intro
                          all_goals first | exact trivial | exact ⟨rfl⟩ | exact noCap
                        · cbv; repeat' apply And.intro
                          all_goals first | exact trivial | exact fun h => h | exact ⟨rfl⟩ | exact noCap | rfl | exact ⟨hl.symm⟩ | exact ⟨hp'.symm⟩ | exact fun e e' j h _ _ hj => rowL_le e e' j h hj | exact fun e e' j h _ _ hj => spF_le e e' j h hj | exact fun e e' j h _ _ hj => intRow_le e e' j h hj | exact hi0 | (rw [hS]; exact snoc_le (z := .lit (Int.ofNat 0)) (n := .sh l2) (n' := .plus (.sh l2) (.lit (Int.ofNat 1))) rfl hK.len (congrArg (· + 1) hK.len) heq rfl rfl rfl rfl)
                        · cbv
                        · cbv
                        · cbv
                    · rw [f_eql] at hkd
                      simp only [E.i_f1, E.i_sh, E.i_lit] at hkd
                      cases hst with
                      | new _ ho => exfalso; simp [opensK] at ho; exact hkd ho
                      | upd hp1 => exact absurd hp hp1
                      | none _ _ hS hl hp' =>
                      refine ⟨⟨(2, l', S', p0, p', p2), stage_mk1 hK'⟩, [.of 17], ⟨?_, ?_, ?_, ?_, ?_⟩, by simp⟩
                      · cbv; repeat' apply And.intro
                        all_goals first | exact trivial | exact ⟨rfl⟩ | exact noCap
                      · cbv; repeat' apply And.intro
                        all_goals first | exact trivial | exact fun h => h | exact ⟨rfl⟩ | exact noCap | rfl | exact ⟨hl.symm⟩ | exact ⟨hp.trans hp'.symm⟩ | exact fun e e' j h _ _ hj => rowL_le e e' j h hj | exact fun e e' j h _ _ hj => spF_le e e' j h hj | exact fun e e' j h _ _ hj => intRow_le e e' j h hj | exact hi0 | (rw [hS]; exact fun e e' j h _ _ hj => spF_le e e' j h hj)
                      · cbv
                      · cbv
                      · cbv
                  · rw [f_eql] at hp
                    simp only [E.i_sh, E.i_lit] at hp
                    obtain ⟨f1, f2, f3, f4, f5, f6, f7⟩ := open_facts hK.o1 hp hK.len hK.nb
                    simp only at f1 f2 f3 f4 f5 f6 f7
                    have hl1 := hK.lb
                    simp only at hl1
                    have hw0 : IntKind.i64.wrap (p1 - 1) = p1 - 1 := wrap64 (by omega) (by omega)
                    repeat' (first | refine Br.mk (fun _ => ?_) (fun _ => ?_) | refine Ast.mk ?_ ?_)
                    all_goals simp only [t_lss, f_lss, t_leq, t_not, f_not, t_eql, f_eql, E.i_sh, E.i_lit, E.i_f1, E.i_plus, i_add, i_sub, hw0, Int.ofNat_eq_natCast] at *
                    all_goals try omega
                    all_goals have hw : IntKind.i64.wrap (p1 - 1) = p1 - 1 := wrap64 (by omega) (by omega)
                    all_goals have hv : IntKind.i64.wrap ((S2.getD (IntKind.i64.wrap (p1 - 1)).toNat default).n + 1) = (S2.getD (p1 - 1).toNat default).n + 1 := by rw [hw, wrap64 (by omega) (by omega)]
                    · cases hst with
                      | new hp1 => exact absurd hp1 hp
                      | none hp1 => exact absurd hp1 hp
                      | upd _ hS hl hp' =>
                      have hcl : closesK 1 (kind j) = true := by simp [closesK, *]
                      rw [hcl] at hp'
                      simp only [if_true, if_false, Bool.false_eq_true] at hp'
                      refine ⟨⟨(2, l', S', p0, p', p2), stage_mk1 hK'⟩, [.of 17], ⟨?_, ?_, ?_, ?_, ?_⟩, by simp⟩
                      · cbv; repeat' apply And.intro
                        all_goals first | exact trivial | exact ⟨rfl⟩ | exact noCap
                      · cbv; repeat' apply And.intro
                        all_goals first | exact trivial | exact fun h => h | exact ⟨rfl⟩ | exact noCap | rfl | exact ⟨hl.symm⟩ | exact ⟨hp'.symm⟩ | exact fun e e' j h _ _ hj => rowL_le e e' j h hj | exact fun e e' j h _ _ hj => spF_le e e' j h hj | exact fun e e' j h _ _ hj => intRow_le e e' j h hj | exact hi0 | exact put2_le (S2 := S2) (S' := S') (l2 := l2) (p := p1) (kd := kind j) (t := tm j) hK.len hw hw f1 f3 f4 hv rfl (by rw [f5]; exact hcl) hS
                      · cbv
                      · cbv
                      · cbv
                    · cases hst with
                      | new hp1 => exact absurd hp1 hp
                      | none hp1 => exact absurd hp1 hp
                      | upd _ hS hl hp' =>
                      have hcl : closesK 1 (kind j) = false := by simp [closesK, *]
                      rw [hcl] at hp'
                      simp only [if_true, if_false, Bool.false_eq_true] at hp'
                      refine ⟨⟨(2, l', S', p0, p', p2), stage_mk1 hK'⟩, [.of 17], ⟨?_, ?_, ?_, ?_, ?_⟩, by simp⟩
                      · cbv; repeat' apply And.intro
                        all_goals first | exact trivial | exact ⟨rfl⟩ | exact noCap
                      · cbv; repeat' apply And.intro
                        all_goals first | exact trivial | exact fun h => h | exact ⟨rfl⟩ | exact noCap | rfl | exact ⟨hl.symm⟩ | exact ⟨hp'.symm⟩ | exact fun e e' j h _ _ hj => rowL_le e e' j h hj | exact fun e e' j h _ _ hj => spF_le e e' j h hj | exact fun e e' j h _ _ hj => intRow_le e e' j h hj | exact hi0 | exact put1_le (S2 := S2) (S' := S') (l2 := l2) (p := p1) (kd := kind j) (t := tm j) hK.len hw f1 f3 f4 hv (by rw [f5]; exact hcl) hS
                      · cbv
                      · cbv
                      · cbv
                · refine bk_cps2 (c := listI zs i) (kd := kind j) (t := tm j) hK (by omega) htm fun l' S' p' hK' hst => ?_
                  cbv
                  refine Br.mk (fun hp => ?_) (fun hp => ?_)
                  · rw [t_eql] at hp
                    simp only [E.i_sh, E.i_lit] at hp
                    refine Br.mk (fun hkd => ?_) (fun hkd => ?_)
                    · rw [t_eql] at hkd
                      simp only [E.i_f1, E.i_sh, E.i_lit] at hkd
                      refine Ast.mk (by rw [t_leq]; exact Int.le_refl _) (Ast.mk ?_ ?_)
                      · rw [t_leq]
                        have h3 := hK.lb
                        simp only [E.i_plus, E.i_sh, E.i_lit, Int.ofNat_eq_natCast] at h3 ⊢
                        omega
                      · cases hst with
                        | none _ ho => exfalso; rw [hkd] at ho; revert ho; decide
                        | upd hp1 => exact absurd hp hp1
                        | new _ _ hS hl hp' =>
                        refine ⟨⟨(3, l', S', p0, p1, p'), stage_mk2 hK'⟩, [.of 19], ⟨?_, ?_, ?_, ?_, ?_⟩, by simp⟩
                        · cbv; repeat' apply And.intro
                          all_goals first | exact trivial | exact ⟨rfl⟩ | exact noCap
                        · cbv; repeat' apply And.intro
                          all_goals first | exact trivial | exact fun h => h | exact ⟨rfl⟩ | exact noCap | rfl | exact ⟨hl.symm⟩ | exact ⟨hp'.symm⟩ | exact fun e e' j h _ _ hj => rowL_le e e' j h hj | exact fun e e' j h _ _ hj => spF_le e e' j h hj | exact fun e e' j h _ _ hj => intRow_le e e' j h hj | exact hi0 | (rw [hS]; exact snoc_le (z := .lit (Int.ofNat 0)) (n := .sh l2) (n' := .plus (.sh l2) (.lit (Int.ofNat 1))) rfl hK.len (congrArg (· + 1) hK.len) heq rfl rfl rfl rfl)
                        · cbv
                        · cbv
                        · cbv
                    · rw [f_eql] at hkd
                      simp only [E.i_f1, E.i_sh, E.i_lit] at hkd
                      cases hst with
                      | new _ ho => exfalso; simp [opensK] at ho; exact hkd ho
                      | upd hp1 => exact absurd hp hp1
                      | none _ _ hS hl hp' =>
                      refine ⟨⟨(3, l', S', p0, p1, p'), stage_mk2 hK'⟩, [.of 17], ⟨?_, ?_, ?_, ?_, ?_⟩, by simp⟩
                      · cbv; repeat' apply And.intro
                        all_goals first | exact trivial | exact ⟨rfl⟩ | exact noCap
                      · cbv; repeat' apply And.intro
                        all_goals first | exact trivial | exact fun h => h | exact ⟨rfl⟩ | exact noCap | rfl | exact ⟨hl.symm⟩ | exact ⟨hp.trans hp'.symm⟩ | exact fun e e' j h _ _ hj => rowL_le e e' j h hj | exact fun e e' j h _ _ hj => spF_le e e' j h hj | exact fun e e' j h _ _ hj => intRow_le e e' j h hj | exact hi0 | (rw [hS]; exact fun e e' j h _ _ hj => spF_le e e' j h hj)
                      · cbv
                      · cbv
                      · cbv
                  · rw [f_eql] at hp
                    simp only [E.i_sh, E.i_lit] at hp
                    obtain ⟨f1, f2, f3, f4, f5, f6, f7⟩ := open_facts hK.o2 hp hK.len hK.nb
                    simp only at f1 f2 f3 f4 f5 f6 f7
                    have hl1 := hK.lb
                    simp only at hl1
                    have hw0 : IntKind.i64.wrap (p2 - 1) = p2 - 1 := wrap64 (by omega) (by omega)
                    repeat' (first | refine Br.mk (fun _ => ?_) (fun _ => ?_) | refine Ast.mk ?_ ?_)
                    all_goals simp only [t_lss, f_lss, t_leq, t_not, f_not, t_eql, f_eql, E.i_sh, E.i_lit, E.i_f1, E.i_plus, i_add, i_sub, hw0, Int.ofNat_eq_natCast] at *
                    all_goals try omega
                    all_goals have hw : IntKind.i64.wrap (p2 - 1) = p2 - 1 := wrap64 (by omega) (by omega)
                    all_goals have hv : IntKind.i64.wrap ((S2.getD (IntKind.i64.wrap (p2 - 1)).toNat default).n + 1) = (S2.getD (p2 - 1).toNat default).n + 1 := by rw [hw, wrap64 (by omega) (by omega)]
                    · cases hst with
                      | new hp1 => exact absurd hp1 hp
                      | none hp1 => exact absurd hp1 hp
                      | upd _ hS hl hp' =>
                      have hcl : closesK 2 (kind j) = true := by simp [closesK, *]
                      rw [hcl] at hp'
                      simp only [if_true, if_false, Bool.false_eq_true] at hp'
                      refine ⟨⟨(3, l', S', p0, p1, p'), stage_mk2 hK'⟩, [.of 17], ⟨?_, ?_, ?_, ?_, ?_⟩, by simp⟩
                      · cbv; repeat' apply And.intro
                        all_goals first | exact trivial | exact ⟨rfl⟩ | exact noCap
                      · cbv; repeat' apply And.intro
                        all_goals first | exact trivial | exact fun h => h | exact ⟨rfl⟩ | exact noCap | rfl | exact ⟨hl.symm⟩ | exact ⟨hp'.symm⟩ | exact fun e e' j h _ _ hj => rowL_le e e' j h hj | exact fun e e' j h _ _ hj => spF_le e e' j h hj | exact fun e e' j h _ _ hj => intRow_le e e' j h hj | exact hi0 | exact put2_le (S2 := S2) (S' := S') (l2 := l2) (p := p2) (kd := kind j) (t := tm j) hK.len hw hw f1 f3 f4 hv rfl (by rw [f5]; exact hcl) hS
                      · cbv
                      · cbv
                      · cbv
                    · cases hst with
                      | new hp1 => exact absurd hp1 hp
                      | none hp1 => exact absurd hp1 hp
                      | upd _ hS hl hp' =>
                      have hcl : closesK 2 (kind j) = true := by simp [closesK, *]
                      rw [hcl] at hp'
                      simp only [if_true, if_false, Bool.false_eq_true] at hp'
                      refine ⟨⟨(3, l', S', p0, p1, p'), stage_mk2 hK'⟩, [.of 17], ⟨?_, ?_, ?_, ?_, ?_⟩, by simp⟩
                      · cbv; repeat' apply And.intro
                        all_goals first | exact trivial | exact ⟨rfl⟩ | exact noCap
                      · cbv; repeat' apply And.intro
                        all_goals first | exact trivial | exact fun h => h | exact ⟨rfl⟩ | exact noCap | rfl | exact ⟨hl.symm⟩ | exact ⟨hp'.symm⟩ | exact fun e e' j h _ _ hj => rowL_le e e' j h hj | exact fun e e' j h _ _ hj => spF_le e e' j h hj | exact fun e e' j h _ _ hj => intRow_le e e' j h hj | exact hi0 | exact put2_le (S2 := S2) (S' := S') (l2 := l2) (p := p2) (kd := kind j) (t := tm j) hK.len hw hw f1 f3 f4 hv rfl (by rw [f5]; exact hcl) hS
                      · cbv
                      · cbv
                      · cbv
                    · cases hst with
                      | new hp1 => exact absurd hp1 hp
                      | none hp1 => exact absurd hp1 hp
                      | upd _ hS hl hp' =>
                      have hcl : closesK 2 (kind j) = false := by simp [closesK, *]
                      rw [hcl] at hp'
                      simp only [if_true, if_false, Bool.false_eq_true] at hp'
                      refine ⟨⟨(3, l', S', p0, p1, p'), stage_mk2 hK'⟩, [.of 17], ⟨?_, ?_, ?_, ?_, ?_⟩, by simp⟩
                      · cbv; repeat' apply And.intro
                        all_goals first | exact trivial | exact ⟨rfl⟩ | exact noCap
                      · cbv; repeat' apply And.intro
                        all_goals first | exact trivial | exact fun h => h | exact ⟨rfl⟩ | exact noCap | rfl | exact ⟨hl.symm⟩ | exact ⟨hp'.symm⟩ | exact fun e e' j h _ _ hj => rowL_le e e' j h hj | exact fun e e' j h _ _ hj => spF_le e e' j h hj | exact fun e e' j h _ _ hj => intRow_le e e' j h hj | exact hi0 | exact put1_le (S2 := S2) (S' := S') (l2 := l2) (p := p2) (kd := kind j) (t := tm j) hK.len hw f1 f3 f4 hv (by rw [f5]; exact hcl) hS
                      · cbv
                      · cbv
                      · cbv
                · cbv
                  refine ⟨⟨(j + 1, l2, S2, p0, p1, p2), stage_end hB hlt2 heq hK⟩, [.of 17], ⟨?_, ?_, ?_, ?_, ?_⟩, ?_⟩
                  · cbv; repeat' apply And.intro
                    all_goals first | exact trivial | exact ⟨rfl⟩ | exact noCap | exact ⟨wrap64 (x := j + 1) (by omega) (by omega)⟩
                  · cbv; repeat' apply And.intro
                    all_goals first | exact trivial | exact fun h => h | exact ⟨rfl⟩ | exact noCap | rfl | exact fun e e' j h _ _ hj => rowL_le e e' j h hj | exact fun e e' j h _ _ hj => spF_le e e' j h hj | exact fun e e' j h _ _ hj => intRow_le e e' j h hj | exact hi0
                  · cbv
                  · cbv
                  · cbv
                  · simp only; omega
            · rw [f_eql] at hne
              simp only [E.i_sh, E.i_f1] at hne
              refine ⟨⟨(j + 1, ln, S, o0, o1, o2), book_other hB hlt2 hne⟩, [.of 10], ⟨?_, ?_, ?_, ?_, ?_⟩, ?_⟩
              · cbv; repeat' apply And.intro
                all_goals first | exact trivial | exact ⟨rfl⟩ | exact noCap | exact ⟨wrap64 (x := j + 1) (by omega) (by omega)⟩
              · cbv; repeat' apply And.intro
                all_goals first | exact trivial | exact fun h => h | exact ⟨rfl⟩ | exact noCap | rfl | exact fun e e' j h _ _ hj => rowL_le e e' j h hj | exact fun e e' j h _ _ hj => spF_le e e' j h hj | exact fun e e' j h _ _ hj => intRow_le e e' j h hj | exact hi0
              · cbv
              · cbv
              · cbv
              · simp only; omega
          · rw [f_lss] at hge2
            simp only [E.i_sh] at hge2
            refine hO'.lo (loop_rule' (ι := { x : Int × Int × List Sp // 0 ≤ x.1 ∧ x.1 ≤ ln ∧ x.2.2 = L ++ S.take x.1.toNat ∧ x.2.1 = len + x.1 })
              (fun st x => ⟨liveK st.tmps [0, 28, 29] [(30, .int .i64 (.sh x.1.1))],
                (2, true, .cells 24 [.sl 11 5 (.c 0) (.sh x.1.2.1) none]) :: (11, true, .row 33 5 (.sh x.1.2.1) (spF x.1.2.2)) ::
                (10, true, .row 33 5 (.sh ln) (spF S)) :: (4, true, .row 3 1 (.sh m) (intRow (listI zs))) :: (0, false, .row 31 5 (.sh N) (rowL tm core kind fk flat)) :: keepH [9, 8, 7, 6] st.heap, 12, []⟩)
              (fun x => (ln - x.1.1).toNat) ⟨(0, len, L), by simp, by simp only; omega, by simp, by simp⟩ [.of 5] ?_ (fun h hh => by cases hh) (fun _ => rfl) fun x => ?_)
            · constructor
              · cbv; repeat' apply And.intro
                all_goals first | exact trivial | exact ⟨rfl⟩ | exact noCap
              · cbv; repeat' apply And.intro
                all_goals first | exact trivial | exact fun h => h | exact ⟨rfl⟩ | exact noCap | rfl | exact fun e e' j h _ _ hj => rowL_le e e' j h hj | exact fun e e' j h _ _ hj => spF_le e e' j h hj | exact fun e e' j h _ _ hj => intRow_le e e' j h hj | exact hi0
              · cbv
              · cbv
              · cbv
            · refine Snd.of_run (X := Xall) m1 (by decide +kernel) (by decide +kernel) 3000 (by decide +kernel) fun O4 hO4 => ?_
              obtain ⟨⟨t, len2, L2⟩, ht0, ht, hL2, hlen2⟩ := x
              simp only at ht0 ht hL2 hlen2
              cbv
              refine Br.mk (fun hlt4 => ?_) (fun hge4 => ?_)
              · rw [t_lss] at hlt4
                simp only [E.i_sh] at hlt4
                refine Ast.mk (by rw [t_leq]; exact ht0) (Ast.mk (by rw [t_lss]; exact hlt4) (Ast.mk (by rw [t_lss]; exact hlt4) (Ast.mk (by rw [t_leq]; exact Int.le_refl _) (Ast.mk ?_ ?_))))
                · rw [t_leq]
                  simp only [E.i_plus, E.i_sh, E.i_lit, Int.ofNat_eq_natCast]
                  omega
                refine take_cps hL2 hlen2 hlen hln ht0 hlt4 fun l' L' e1 e2 e3 e4 e5 => ?_
                refine ⟨⟨(t + 1, l', L'), by simp only; omega, by simp only; omega, e1, e2⟩, [.of 15], ⟨?_, ?_, ?_, ?_, ?_⟩, ?_⟩
                · cbv; repeat' apply And.intro
                  all_goals first | exact trivial | exact ⟨rfl⟩ | exact noCap | exact ⟨wrap64 (x := t + 1) (by omega) (by omega)⟩
                · cbv; repeat' apply And.intro
                  all_goals first | exact trivial | exact fun h => h | exact ⟨rfl⟩ | exact noCap | rfl | exact ⟨e3.symm⟩ | exact fun e e' j h _ _ hj => rowL_le e e' j h hj | exact fun e e' j h _ _ hj => spF_le e e' j h hj | exact fun e e' j h _ _ hj => intRow_le e e' j h hj | exact hi0 | (rw [e4]; exact snoc_le (z := .lit (Int.ofNat 0)) (n := .sh len2) (n' := .plus (.sh len2) (.lit (Int.ofNat 1))) rfl e5 (congrArg (· + 1) e5) rfl rfl rfl rfl rfl)
                · cbv
                · cbv
                · cbv
                · simp only; omega
              · rw [f_lss] at hge4
                simp only [E.i_sh] at hge4
                refine ⟨⟨(i + 1, len2, L2), by simp only; omega, by simp only; omega, core_end hi0 hlt hqz hL hlen hB hge2 ht hge4 hL2 hlen2⟩, [.of 11], ⟨?_, ?_, ?_, ?_, ?_⟩, ?_⟩
                · cbv; repeat' apply And.intro
                  all_goals first | exact trivial | exact ⟨rfl⟩ | exact noCap | exact ⟨wrap64 (x := i + 1) (by omega) (by omega)⟩
                · cbv; repeat' apply And.intro
                  all_goals first | exact trivial | exact fun h => h | exact ⟨rfl⟩ | exact noCap | rfl | exact fun e e' j h _ _ hj => rowL_le e e' j h hj | exact fun e e' j h _ _ hj => spF_le e e' j h hj | exact fun e e' j h _ _ hj => intRow_le e e' j h hj | exact hi0
                · cbv
                · cbv
                · cbv
                · simp only; omega
      · rw [f_lss] at hge
        simp only [E.i_sh] at hge
        refine hO.co (sort_spans (L := L) rfl hlen (fun s hs => ?_) hlenN fun L' hp hs => ?_)
        · rw [hL] at hs
          obtain ⟨i', f1, f2, f3⟩ := rowOf_frm hs
          rw [f3]
          exact ⟨(hok i' f1 f2).1, hr i' f1 f2⟩
        · have hA := all_is (may_up hok) hys hzs hq hge hL hlen hp hs
          cbv
          exact ⟨_, ⟨len, L', hA, rfl⟩, 5, by decide, rfl, rfl⟩
end
end Go.Sx
