import Derived.Test.YtpkapjlcmoikoaaSpRg
set_option linter.all false
/-
  Of a log that may not be.
-/
namespace Go.Sx
open Go
def Xf13b : Cfg := ⟨[13], [12], true⟩
def Xf21b : Cfg := ⟨[21], [18], true⟩
set_option maxRecDepth 100000
set_option maxHeartbeats 4000000
set_option linter.all false
section
variable (n m c kd : Int) (tm core kind fk flat cs : Int → Int)
theorem spec_refspans_bad (h0 : 0 ≤ n) (hN : n ≤ 300) (hmay : mayB n tm core kind = false) : Spec PP 16 [.sl 0 5 (.c 0) (.sh n) none, .int .i64 (.sh c)] [(0, false, .row 31 5 (.sh n) (rowL tm core kind fk flat))] 1
    (fun out => out = .val (.tup [.lit (.slice none 0 0), .int .i64 (.lit 2)])) := by
  intro C
  refine CallOb.of_run (X := Xf16) m1 (by decide +kernel) (by decide +kernel) 3000 fun O hO => ?_
  cbv
  refine hO.co (Spec.call (spec_refmay n tm core kind fk flat h0 (by omega)) [.of 0] rfl rfl ?_ ?_ (fun out ho => ?_) (fun out ho => ?_))
  · cbv; repeat' apply And.intro
    all_goals first | exact trivial | exact ⟨rfl⟩ | exact noCap
  · cbv; exact ⟨⟨fun h => h, ⟨rfl⟩, fun e e' j h _ _ hj => rowL_le e e' j h hj⟩, trivial⟩
  · subst ho; exact plain_of rfl
  subst ho
  rw [hmay]
  cbv
  exact ⟨_, rfl, rfl⟩
theorem spec_refall_bad (h0 : 0 ≤ n) (hN : n ≤ 300) (hmay : mayB n tm core kind = false) : Spec PP 18 [.sl 0 5 (.c 0) (.sh n) none, .sl 1 1 (.c 0) (.sh m) none] [(1, false, .row 3 1 (.sh m) (intRow cs)), (0, false, .row 31 5 (.sh n) (rowL tm core kind fk flat))] 2
    (fun out => out = .val (.tup [.lit (.slice none 0 0), .int .i64 (.lit 2)])) := by
  intro C
  refine CallOb.of_run (X := Xf18) m1 (by decide +kernel) (by decide +kernel) 3000 fun O hO => ?_
  cbv
  refine hO.co (Spec.call (spec_refmay n tm core kind fk flat h0 (by omega)) [.of 0] rfl rfl ?_ ?_ (fun out ho => ?_) (fun out ho => ?_))
  · cbv; repeat' apply And.intro
    all_goals first | exact trivial | exact ⟨rfl⟩ | exact noCap
  · cbv; exact ⟨⟨fun h => h, ⟨rfl⟩, fun e e' j h _ _ hj => rowL_le e e' j h hj⟩, trivial⟩
  · subst ho; exact plain_of rfl
  subst ho
  rw [hmay]
  cbv
  exact ⟨_, rfl, rfl⟩
theorem spec_reflongest_bad (h0 : 0 ≤ n) (hN : n ≤ 300) (hmay : mayB n tm core kind = false) : Spec PP 21 [.sl 0 5 (.c 0) (.sh n) none, .int .i8 (.sh kd)] [(0, false, .row 31 5 (.sh n) (rowL tm core kind fk flat))] 1
    (fun out => out = .val (.tup [.agg [.int .i64 (.lit 0), .int .i8 (.lit 0), .int .i64 (.lit 0), .int .i64 (.lit 0), .int .i64 (.lit 0)], .bool (.bl false)])) := by
  intro C
  refine CallOb.of_run (X := Xf21b) m1 (by decide +kernel) (by decide +kernel) 3000 fun O hO => ?_
  cbv
  refine hO.co (Spec.call (spec_refall_bad n 8 tm core kind fk flat (listI eights) h0 hN hmay) [.of 0, .of 2] rfl rfl ?_ ?_ (fun out ho => ?_) (fun out ho => ?_))
  · cbv; repeat' apply And.intro
    all_goals first | exact trivial | exact ⟨rfl⟩ | exact noCap
  · exact ⟨⟨(fun h => by cases h), ints_row rfl rfl fun i hi => match i, hi with
      | 0, _ | 1, _ | 2, _ | 3, _ | 4, _ | 5, _ | 6, _ | 7, _ => ⟨_, rfl, rfl⟩⟩, ⟨fun h => h, rfl, ⟨rfl⟩, fun e e' j h _ _ hj => rowL_le e e' j h hj⟩, trivial⟩
  · subst ho; exact plain_of rfl
  subst ho
  cbv
  first
    | exact ⟨_, rfl, rfl⟩
    | (refine Br.mk (fun h => ?_) (fun _ => ?_)
       · rw [t_lss] at h; exact absurd h (by decide)
       · exact ⟨_, rfl, rfl⟩)
    | trace_state
theorem spec_longest_bad (h0 : 0 ≤ n) (hN : n ≤ 300) (hmay : mayB n tm core kind = false) : Spec PP 13 [.sl 0 5 (.c 0) (.sh n) none, .int .i8 (.sh kd)] [(0, false, .row 31 5 (.sh n) (rowL tm core kind fk flat))] 1
    (fun out => out = .val (.tup [.agg [.int .i64 (.lit 0), .int .i8 (.lit 0), .int .i64 (.lit 0), .int .i64 (.lit 0), .int .i64 (.lit 0)], .bool (.bl false)])) := by
  intro C
  refine CallOb.of_run (X := Xf13b) m1 (by decide +kernel) (by decide +kernel) 3000 fun O hO => ?_
  cbv
  refine hO.co (Spec.call (spec_all_bad n n 8 tm core kind fk flat (listI eights) h0 (Int.le_refl _) (by omega) hmay) [.of 0, .of 2] rfl rfl ?_ ?_ (fun out ho => ?_) (fun out ho => ?_))
  · cbv; repeat' apply And.intro
    all_goals first | exact trivial | exact ⟨rfl⟩ | exact noCap
  · exact ⟨⟨(fun h => by cases h), ints_row rfl rfl fun i hi => match i, hi with
      | 0, _ | 1, _ | 2, _ | 3, _ | 4, _ | 5, _ | 6, _ | 7, _ => ⟨_, rfl, rfl⟩⟩, ⟨fun h => h, rfl, ⟨rfl⟩, fun e e' j h _ _ hj => rowL_le e e' j h hj⟩, trivial⟩
  · subst ho; exact plain_of rfl
  subst ho
  cbv
  first
    | exact ⟨_, rfl, rfl⟩
    | (refine Br.mk (fun h => ?_) (fun _ => ?_)
       · rw [t_lss] at h; exact absurd h (by decide)
       · exact ⟨_, rfl, rfl⟩)
    | trace_state
end
end Go.Sx
