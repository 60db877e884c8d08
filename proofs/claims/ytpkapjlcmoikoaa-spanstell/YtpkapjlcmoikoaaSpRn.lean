import Derived.Test.YtpkapjlcmoikoaaSpD
import Derived.Test.YtpkapjlcmoikoaaSpY
set_option linter.all false
/-
  The reference's Counts.
-/
namespace Go.Sx
open Go
def Xf22 : Cfg := ⟨[22], [10], false⟩
set_option maxRecDepth 100000
set_option maxHeartbeats 4000000
set_option linter.all false
section
variable (n : Int) (N : Int) (tm core kind fk flat : Int → Int) (c : Int)
theorem spec_refcounts (h0 : 0 ≤ n) (h1 : n = N) (hN : N ≤ 300) : Spec PP 22 [.sl 0 5 (.c 0) (.sh n) none, .int .i64 (.sh c)] [(0, false, .row 31 5 (.sh N) (rowL tm core kind fk flat))] 1
    (fun out => (mayB n tm core kind = true → out = .val (.tup [cntAgg core kind c n, .int .i64 (.lit 0)])) ∧
      (mayB n tm core kind = false → out = .val (.tup [zeroAgg, .int .i64 (.lit 2)]))) := by
  intro C
  refine CallOb.of_run (X := Xf22) m1 (by decide +kernel) (by decide +kernel) 3000 fun O hO => ?_
  subst h1
  cbv
  refine hO.co (Spec.call (spec_refmay n tm core kind fk flat h0 (by omega)) [.of 0] rfl rfl ?_ ?_ (fun out ho => ?_) (fun out ho => ?_))
  · cbv; repeat' apply And.intro
    all_goals first | exact trivial | exact ⟨rfl⟩ | exact noCap
  · cbv; exact ⟨⟨fun h => h, ⟨rfl⟩, fun e e' j h _ _ hj => rowL_le e e' j h hj⟩, trivial⟩
  · subst ho; exact plain_of rfl
  · subst ho
    cases hm : mayB n tm core kind with
    | false =>
      cbv
      exact ⟨_, ⟨(fun h => by cases h), (fun _ => rfl)⟩, rfl⟩
    | true =>
      have hok := (mayB_iff n _ _ _).1 hm
      cbv
      refine hO.lo (loop_rule' (ι := { m : Int // 0 ≤ m ∧ m ≤ n })
        (fun st m => ⟨liveK st.tmps [0, 1, 4, 6] [(7, .int .i64 (.sh m.1))],
          [(2, true, .row 3 1 (.lit 14) (cntRow core kind c m.1)), (0, false, .row 31 5 (.sh n) (rowL tm core kind fk flat))] ++ keepH [1] st.heap, 3, []⟩)
        (fun m => (n - m.1).toNat) ⟨0, Int.le_refl _, h0⟩ [] ?_ (fun h hh => by cases hh) (fun _ => rfl) fun m => ?_)
      · constructor
        · cbv; repeat' apply And.intro
          all_goals first | exact trivial | exact ⟨rfl⟩ | exact noCap
        · cbv
          refine ⟨⟨fun h => h, fun e j h0 h1 hj => ?_⟩, ?_⟩
          · rw [E.i_lit] at h1
            have hj0 : j = 0 := by omega
            subst hj0
            have h14 : e.i.toNat * 1 + 0 < 14 := by omega
            generalize e.i.toNat * 1 + 0 = q at h14
            match q, h14 with
            | 0, _ | 1, _ | 2, _ | 3, _ | 4, _ | 5, _ | 6, _ | 7, _ | 8, _ | 9, _ | 10, _ | 11, _ | 12, _ | 13, _ => exact ⟨rfl, ⟨rfl⟩⟩
          · repeat' apply And.intro
            all_goals first | exact trivial | exact fun h => h | exact ⟨rfl⟩ | rfl | exact fun e e' j h _ _ hj => rowL_le e e' j h hj
        · cbv
        · cbv
        · cbv
      · refine Snd.of_run (X := Xf22) m1 (by decide +kernel) (by decide +kernel) 3000 (by decide +kernel) fun O hO => ?_
        obtain ⟨m, hm0, hmn⟩ := m
        have hkm : m < n → 0 ≤ kind m ∧ kind m ≤ 13 := fun h => ⟨(hok m hm0 h).2.2.2.2.1, (hok m hm0 h).2.2.2.2.2⟩
        cbv
        repeat' (first | refine Br.mk (fun _ => ?_) (fun _ => ?_) | refine Ast.mk ?_ ?_)
        all_goals simp only [t_lss, f_lss, t_leq, t_eql, f_eql, E.i_sh, E.i_lit, E.i_f1, E.i_plus, Int.ofNat_eq_natCast] at *
        all_goals try omega
        · have hs := fun k => cntI_succ core kind c k hm0
          have hl := cntI_le core kind c (kind m) hm0
          refine ⟨⟨m + 1, by omega, by omega⟩, [], ⟨?_, ?_, ?_, ?_, ?_⟩, ?_⟩
          · cbv; repeat' apply And.intro
            all_goals first | exact trivial | exact ⟨rfl⟩ | exact noCap | exact ⟨wrap64 (x := m + 1) (by omega) (by omega)⟩
          · refine ⟨⟨fun h => h, rfl, ⟨rfl⟩, fun e e' j he h1 h2 hj => ?_⟩, ⟨fun h => h, rfl, ⟨rfl⟩, fun e e' j h _ _ hj => rowL_le e e' j h hj⟩, ?_⟩
            · obtain rfl : j = 0 := by omega
              refine rowPut1_le (f := .f1 (fun k => cntI core kind c k m) e) rfl (fun h => ?_) (fun h => ?_)
              · simp only [E.i_f1, i_add, E.i_plus, E.i_sh, E.i_lit] at h ⊢
                rw [wrap64 (by omega) (by omega), ← he, h, hs, if_pos ⟨by assumption, rfl⟩]
              · simp only [E.i_f1, E.i_plus, E.i_sh] at h ⊢
                rw [← he, hs, if_neg (fun hh => h hh.2.symm), Int.add_zero]
            · cbv; repeat' apply And.intro
              all_goals first | exact trivial | exact fun h => h | exact ⟨rfl⟩ | rfl
          · cbv
          · cbv
          · cbv
          · simp only; omega
        · have hs := fun k => cntI_succ core kind c k hm0
          refine ⟨⟨m + 1, by omega, by omega⟩, [], ⟨?_, ?_, ?_, ?_, ?_⟩, ?_⟩
          · cbv; repeat' apply And.intro
            all_goals first | exact trivial | exact ⟨rfl⟩ | exact noCap | exact ⟨wrap64 (x := m + 1) (by omega) (by omega)⟩
          · refine ⟨⟨fun h => h, rfl, ⟨rfl⟩, fun e e' j he h1 h2 hj => ?_⟩, ⟨fun h => h, rfl, ⟨rfl⟩, fun e e' j h _ _ hj => rowL_le e e' j h hj⟩, ?_⟩
            · refine ⟨rfl, ⟨?_⟩⟩
              simp only [E.i_f1]
              rw [← he, hs, if_neg (by intro hh; exact (by assumption : ¬ core m = c) hh.1), Int.add_zero]
            · cbv; repeat' apply And.intro
              all_goals first | exact trivial | exact fun h => h | exact ⟨rfl⟩ | rfl
          · cbv
          · cbv
          · cbv
          · simp only; omega
        · obtain rfl : m = n := by omega
          exact ⟨_, ⟨fun _ => rfl, fun h => by cases h⟩, rfl⟩
end
end Go.Sx
