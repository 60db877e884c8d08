import Derived.Test.YtpkapjlcmoikoaaSpT
set_option linter.all false
/-
  All, of no cores.
-/
namespace Go.Sx
open Go
def Xall0 : Cfg := ⟨[12, 27, 32], [10, 23, 28, 29, 31], true⟩
set_option maxRecDepth 100000
set_option maxHeartbeats 4000000
set_option linter.all false
/-- an empty slice: nil, or not -/
theorem split_empty {C : Cx} {f : FuncId} {H : Heap} {nx : Nat} {k : SV → Heap → Nat → Prop} {a0 : SV} {h kk : Nat} {off : Off} {len : E} (hl : len.i = 0)
    (h0 : CallOb PP C f [a0, .lit (.slice none 0 0)] H nx k) (h1 : ∀ a, CallOb PP C f [a0, .lit (.slice (some a) 0 0)] H nx k) (h2 : ∀ c : Int, 0 < c → CallOb PP C f [a0, .sl h kk off len (some (.sh c))] H nx k) :
    CallOb PP C f [a0, .sl h kk off len none] H nx k := by
  refine ⟨fun ρ vs w R ro hargs hrep hR => ?_⟩
  obtain ⟨vs⟩ := vs
  match vs, hargs with
  | [v0, v1], hargs =>
    simp only [SV.RL, and_true] at hargs
    obtain ⟨ha0, hargs⟩ := hargs
    have hargs' := hargs
    simp only [SV.R] at hargs
    obtain ⟨hp, hl0, op, oa, c, g1, rfl, g2, g3, _, g5⟩ := hargs
    have hz : len.i.toNat = 0 := by rw [hl]; rfl
    by_cases hc : c = 0
    · subst hc
      cases oa with
      | none => exact h0.h ρ _ w R ro (by simp only [SV.RL, SV.R, and_true]; exact ⟨ha0, by rw [hz]⟩) hrep hR
      | some a => exact (h1 a).h ρ _ w R ro (by simp only [SV.RL, SV.R, and_true]; exact ⟨ha0, by rw [hz]⟩) hrep hR
    · refine (h2 c (by omega)).h ρ _ w R ro ?_ hrep hR
      simp only [SV.RL, and_true]
      refine ⟨ha0, ?_⟩
      simp only [SV.R]
      exact ⟨hp, hl0, op, oa, c, g1, rfl, g2, g3, fun e he => by cases he; rfl, g5⟩
  | [], hargs => simp [SV.RL] at hargs
  | [_], hargs => simp [SV.RL] at hargs
  | _ :: _ :: _ :: _, hargs => simp [SV.RL] at hargs
section
variable (n N : Int) (tm core kind fk flat : Int → Int) (cs : Int → Int)
theorem spec_all_none (h0 : 0 ≤ n) (h1 : n ≤ N) (hN : N ≤ 1000) (hmay : mayB n tm core kind = true) : Spec PP 12 [.sl 0 5 (.c 0) (.sh n) none, .sl 1 1 (.c 0) (.lit 0) none] [(1, false, .row 3 1 (.lit 0) (intRow cs)), (0, false, .row 31 5 (.sh N) (rowL tm core kind fk flat))] 2
    (fun out => out = .val (.tup [.lit (.slice none 0 0), .int .i64 (.lit 0)])) := by
  intro C
  refine split_empty rfl ?_ (fun a => ?_) (fun c hc => ?_)
  · refine CallOb.of_run (X := Xall0) m1 (by decide +kernel) (by decide +kernel) 3000 fun O hO => ?_
    cbv
    refine hO.co (Spec.call (spec_may n tm core kind fk flat 0 N (Int.le_refl _) h0 (by omega) (by omega)) [.of 0] rfl rfl ?_ ?_ (fun out ho => ?_) (fun out ho => ?_))
    · cbv; repeat' apply And.intro
      all_goals first | exact trivial | exact ⟨rfl⟩ | exact noCap | exact Int.le_refl _
    · cbv; exact ⟨⟨fun h => h, ⟨rfl⟩, fun e e' j h _ _ hj => rowL_le e e' j h hj⟩, trivial⟩
    · subst ho; exact plain_of rfl
    · subst ho
      simp only [Int.zero_add]
      rw [hmay]
      cbv
      refine hO.co (CallOb.le [.nil] (args' := [.sl 3 1 (.c 0) (.lit 0) none]) (H' := [(3, true, .row 3 1 (.lit 0) (intRow (listI []))), (2, true, .cells 24 [.lit (.slice none 0 0)]), (0, false, .row 31 5 (.sh N) (rowL tm core kind fk flat))]) (nx' := 4) ⟨?_, ?_, ?_, ?_, ?_⟩ (sort_ints (xs := []) (ys := []) rfl rfl (by simp) (by simp) ?_))
      · cbv; repeat' apply And.intro
        all_goals first | exact trivial | exact ⟨rfl⟩ | exact noCap | rfl
      · cbv; repeat' apply And.intro
        all_goals first | exact trivial | exact fun h => h | exact ⟨rfl⟩ | rfl | exact fun e e' j h _ _ hj => rowL_le e e' j h hj | exact fun e j h1 h2 h3 => (by have h4 : e.i < 0 := h2; omega)
      · cbv
      · cbv
      · cbv
      cbv
      refine hO.co (CallOb.le [.nil] (args' := [.sl 4 1 (.c 0) (.lit 0) none]) (H' := [(4, true, .row 3 1 (.lit 0) (intRow (listI []))), (2, true, .cells 24 [.lit (.slice none 0 0)]), (0, false, .row 31 5 (.sh N) (rowL tm core kind fk flat))]) (nx' := 5) ⟨?_, ?_, ?_, ?_, ?_⟩ (compact_ints (xs := []) (ys := []) (m := 0) rfl rfl (by simp) rfl rfl (by simp) ?_))
      · cbv; repeat' apply And.intro
        all_goals first | exact trivial | exact ⟨rfl⟩ | exact noCap | rfl
      · cbv; repeat' apply And.intro
        all_goals first | exact trivial | exact fun h => h | exact ⟨rfl⟩ | rfl | exact fun e e' j h _ _ hj => rowL_le e e' j h hj
      · cbv
      · cbv
      · cbv
      cbv
      refine Br.mk (fun h => ?_) (fun _ => ?_)
      · rw [t_lss] at h
        exact absurd h (by decide)
      refine hO.co (CallOb.le [.nil] (args' := [.sl 5 5 (.c 0) (.lit 0) none, .fn (.func 32) [] []]) (H' := [(5, true, .row 33 5 (.lit 0) (spF [])), (2, true, .cells 24 [.lit (.slice none 0 0)])]) (nx' := 6) ⟨?_, ?_, ?_, ?_, ?_⟩ (sort_spans (L := []) rfl rfl (by simp) (by simp) fun L' hp hs => ?_))
      · cbv; repeat' apply And.intro
        all_goals first | exact trivial | exact ⟨rfl⟩ | exact noCap | rfl
      · cbv; repeat' apply And.intro
        all_goals first | exact trivial | exact fun h => h | exact ⟨rfl⟩ | rfl
      · cbv
      · cbv
      · cbv
      cbv
      exact ⟨_, rfl, rfl⟩
  · refine CallOb.of_run (X := Xall0) m1 (by decide +kernel) (by decide +kernel) 3000 fun O hO => ?_
    cbv
    refine hO.co (Spec.call (spec_may n tm core kind fk flat 0 N (Int.le_refl _) h0 (by omega) (by omega)) [.of 0] rfl rfl ?_ ?_ (fun out ho => ?_) (fun out ho => ?_))
    · cbv; repeat' apply And.intro
      all_goals first | exact trivial | exact ⟨rfl⟩ | exact noCap | exact Int.le_refl _
    · cbv; exact ⟨⟨fun h => h, ⟨rfl⟩, fun e e' j h _ _ hj => rowL_le e e' j h hj⟩, trivial⟩
    · subst ho; exact plain_of rfl
    · subst ho
      simp only [Int.zero_add]
      rw [hmay]
      cbv
      refine hO.co (CallOb.le [] (args' := [.sl 3 1 (.c 0) (.lit 0) none]) (H' := [(3, true, .row 3 1 (.lit 0) (intRow (listI []))), (2, true, .cells 24 [.lit (.slice none 0 0)]), (0, false, .row 31 5 (.sh N) (rowL tm core kind fk flat))]) (nx' := 4) ⟨?_, ?_, ?_, ?_, ?_⟩ (sort_ints (xs := []) (ys := []) rfl rfl (by simp) (by simp) ?_))
      · cbv; repeat' apply And.intro
        all_goals first | exact trivial | exact ⟨rfl⟩ | exact noCap | rfl
      · cbv; repeat' apply And.intro
        all_goals first | exact trivial | exact fun h => h | exact ⟨rfl⟩ | rfl | exact fun e e' j h _ _ hj => rowL_le e e' j h hj | exact fun e j h1 h2 h3 => (by have h4 : e.i < 0 := h2; omega)
      · cbv
      · cbv
      · cbv
      cbv
      refine hO.co (compact_ints (xs := []) (ys := []) (m := 0) rfl rfl (by simp) rfl rfl (by simp) ?_)
      cbv
      refine Br.mk (fun h => ?_) (fun _ => ?_)
      · rw [t_lss] at h
        exact absurd h (by decide)
      refine hO.co (CallOb.le [.nil] (args' := [.sl 4 5 (.c 0) (.lit 0) none, .fn (.func 32) [] []]) (H' := [(4, true, .row 33 5 (.lit 0) (spF [])), (2, true, .cells 24 [.lit (.slice none 0 0)])]) (nx' := 5) ⟨?_, ?_, ?_, ?_, ?_⟩ (sort_spans (L := []) rfl rfl (by simp) (by simp) fun L' hp hs => ?_))
      · cbv; repeat' apply And.intro
        all_goals first | exact trivial | exact ⟨rfl⟩ | exact noCap | rfl
      · cbv; repeat' apply And.intro
        all_goals first | exact trivial | exact fun h => h | exact ⟨rfl⟩ | rfl
      · cbv
      · cbv
      · cbv
      cbv
      exact ⟨_, rfl, rfl⟩
  · refine CallOb.of_run (X := Xall0) m1 (by decide +kernel) (by decide +kernel) 3000 fun O hO => ?_
    cbv
    refine hO.co (Spec.call (spec_may n tm core kind fk flat 0 N (Int.le_refl _) h0 (by omega) (by omega)) [.of 0] rfl rfl ?_ ?_ (fun out ho => ?_) (fun out ho => ?_))
    · cbv; repeat' apply And.intro
      all_goals first | exact trivial | exact ⟨rfl⟩ | exact noCap | exact Int.le_refl _
    · cbv; exact ⟨⟨fun h => h, ⟨rfl⟩, fun e e' j h _ _ hj => rowL_le e e' j h hj⟩, trivial⟩
    · subst ho; exact plain_of rfl
    · subst ho
      simp only [Int.zero_add]
      rw [hmay]
      cbv
      refine Ast.mk (by rw [t_lss]; exact hc) ?_
      refine hO.co (CallOb.le [] (args' := [.sl 3 1 (.c 0) (.lit 0) none]) (H' := [(3, true, .row 3 1 (.lit 0) (intRow (listI []))), (2, true, .cells 24 [.lit (.slice none 0 0)]), (0, false, .row 31 5 (.sh N) (rowL tm core kind fk flat))]) (nx' := 4) ⟨?_, ?_, ?_, ?_, ?_⟩ (sort_ints (xs := []) (ys := []) rfl rfl (by simp) (by simp) ?_))
      · cbv; repeat' apply And.intro
        all_goals first | exact trivial | exact ⟨rfl⟩ | exact noCap | rfl
      · cbv; repeat' apply And.intro
        all_goals first | exact trivial | exact fun h => h | exact ⟨rfl⟩ | rfl | exact fun e e' j h _ _ hj => rowL_le e e' j h hj | exact fun e j h1 h2 h3 => (by have h4 : e.i < 0 := h2; omega)
      · cbv
      · cbv
      · cbv
      cbv
      refine hO.co (compact_ints (xs := []) (ys := []) (m := 0) rfl rfl (by simp) rfl rfl (by simp) ?_)
      cbv
      refine Br.mk (fun h => ?_) (fun _ => ?_)
      · rw [t_lss] at h
        exact absurd h (by decide)
      refine hO.co (CallOb.le [.nil] (args' := [.sl 4 5 (.c 0) (.lit 0) none, .fn (.func 32) [] []]) (H' := [(4, true, .row 33 5 (.lit 0) (spF [])), (2, true, .cells 24 [.lit (.slice none 0 0)])]) (nx' := 5) ⟨?_, ?_, ?_, ?_, ?_⟩ (sort_spans (L := []) rfl rfl (by simp) (by simp) fun L' hp hs => ?_))
      · cbv; repeat' apply And.intro
        all_goals first | exact trivial | exact ⟨rfl⟩ | exact noCap | rfl
      · cbv; repeat' apply And.intro
        all_goals first | exact trivial | exact fun h => h | exact ⟨rfl⟩ | rfl
      · cbv
      · cbv
      · cbv
      cbv
      exact ⟨_, rfl, rfl⟩
end
end Go.Sx
