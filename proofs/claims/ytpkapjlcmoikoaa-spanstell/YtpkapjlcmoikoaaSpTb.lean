import Derived.Test.YtpkapjlcmoikoaaSpTn
set_option linter.all false
/-
  SpansTell: the walk, of logs that may not be; the whole.
-/
namespace Go.Sx
open Go
set_option maxRecDepth 100000
set_option maxHeartbeats 8000000
set_option linter.all false
section
variable (C : Cx) (n m : Int) (tm core kind fk flat : Int → Int) (xs : List Int) (c t kd : Int)
theorem tell_bad (h0 : 0 ≤ n) (hN : n ≤ 300) (hm : m = xs.length) (hm5 : m ≤ 50) (hmay : mayB n tm core kind = false) (hk : I8 kd) :
    CallOb PP C 7 [.sl 0 5 (.c 0) (.sh n) none, .sl 1 1 (.c 0) (.sh m) none, .int .i64 (.sh c), .int .i64 (.sh t), .int .i8 (.sh kd)] [(1, false, .row 3 1 (.sh m) (intRow (listI xs))), (0, false, .row 31 5 (.sh n) (rowL tm core kind fk flat))] 2 (fun s _ _ => s = .bool (.bl true)) := by
  refine CallOb.of_runP (X := Xf7) (fun _ => none) (fun _ => none) m1 (by decide +kernel) (by decide +kernel) 3000 fun O hO => ?_
  cbv
  refine Br.mk (fun h => ?_) (fun _ => ?_)
  · rw [t_gtr] at h
    simp only [E.i_sh, E.i_lit] at h
    omega
  refine Br.mk (fun h => ?_) (fun _ => ?_)
  · rw [t_gtr] at h
    simp only [E.i_sh, E.i_lit] at h
    omega
  refine hO.co (Spec.call (spec_all_bad n n 1 tm core kind fk flat (listI [c]) h0 (Int.le_refl _) (by omega) hmay) [.of 0, .of 2] rfl rfl ?_ ?_ (fun out ho => ?_) (fun out ho => ?_))
  · cbv; repeat' apply And.intro
    all_goals first | exact trivial | exact ⟨rfl⟩ | exact noCap | exact ⟨hlen⟩ | exact ⟨hlen'⟩
  · exact ⟨⟨(fun h => by cases h), one_row rfl⟩, ⟨fun h => h, rfl, ⟨rfl⟩, fun e e' j h _ _ hj => rowL_le e e' j h hj⟩, trivial⟩
  · subst ho; exact plain_of rfl
  subst ho
  cbv
  refine hO.co (Spec.call (spec_refspans_bad n c tm core kind fk flat h0 hN hmay) [.of 0] rfl rfl ?_ ?_ (fun out ho => ?_) (fun out ho => ?_))
  · cbv; repeat' apply And.intro
    all_goals first | exact trivial | exact ⟨rfl⟩ | exact noCap | exact ⟨hlen⟩ | exact ⟨hlen'⟩
  · exact ⟨⟨fun h => h, rfl, ⟨rfl⟩, fun e e' j h _ _ hj => rowL_le e e' j h hj⟩, trivial⟩
  · subst ho; exact plain_of rfl
  subst ho
  cbv
  refine hO.co (Spec.call (spec_same 0 0 [] (Int.le_refl _) rfl (by omega)) [.nil, .nil] rfl rfl ?_ ?_ (fun out ho => ?_) (fun out ho => ?_))
  · cbv; repeat' apply And.intro
    all_goals first | exact trivial | exact ⟨rfl⟩ | exact noCap | exact ⟨hlen⟩ | exact ⟨hlen'⟩
  · exact ⟨⟨rfl⟩, ⟨rfl⟩, trivial⟩
  · subst ho; exact plain_of rfl
  subst ho
  cbv
  refine hO.co (Spec.call (spec_all_bad n n m tm core kind fk flat (listI xs) h0 (Int.le_refl _) (by omega) hmay) [.of 0, .of 1] rfl rfl ?_ ?_ (fun out ho => ?_) (fun out ho => ?_))
  · cbv; repeat' apply And.intro
    all_goals first | exact trivial | exact ⟨rfl⟩ | exact noCap | exact ⟨hlen⟩ | exact ⟨hlen'⟩
  · exact ⟨⟨fun h => h, rfl, ⟨rfl⟩, fun e e' j h _ _ hj => intRow_le e e' j h hj⟩, ⟨fun h => h, rfl, ⟨rfl⟩, fun e e' j h _ _ hj => rowL_le e e' j h hj⟩, trivial⟩
  · subst ho; exact plain_of rfl
  subst ho
  cbv
  refine hO.co (Spec.call (spec_refall_bad n m tm core kind fk flat (listI xs) h0 hN hmay) [.of 0, .of 1] rfl rfl ?_ ?_ (fun out ho => ?_) (fun out ho => ?_))
  · cbv; repeat' apply And.intro
    all_goals first | exact trivial | exact ⟨rfl⟩ | exact noCap | exact ⟨hlen⟩ | exact ⟨hlen'⟩
  · exact ⟨⟨fun h => h, rfl, ⟨rfl⟩, fun e e' j h _ _ hj => intRow_le e e' j h hj⟩, ⟨fun h => h, rfl, ⟨rfl⟩, fun e e' j h _ _ hj => rowL_le e e' j h hj⟩, trivial⟩
  · subst ho; exact plain_of rfl
  subst ho
  cbv
  refine hO.co (Spec.call (spec_same 0 0 [] (Int.le_refl _) rfl (by omega)) [.nil, .nil] rfl rfl ?_ ?_ (fun out ho => ?_) (fun out ho => ?_))
  · cbv; repeat' apply And.intro
    all_goals first | exact trivial | exact ⟨rfl⟩ | exact noCap | exact ⟨hlen⟩ | exact ⟨hlen'⟩
  · exact ⟨⟨rfl⟩, ⟨rfl⟩, trivial⟩
  · subst ho; exact plain_of rfl
  subst ho
  cbv
  refine hO.co (Spec.call (spec_at_bad n c t tm core kind fk flat h0 hN hmay) [.of 0] rfl rfl ?_ ?_ (fun out ho => ?_) (fun out ho => ?_))
  · cbv; repeat' apply And.intro
    all_goals first | exact trivial | exact ⟨rfl⟩ | exact noCap | exact ⟨hlen⟩ | exact ⟨hlen'⟩
  · exact ⟨⟨fun h => h, rfl, ⟨rfl⟩, fun e e' j h _ _ hj => rowL_le e e' j h hj⟩, trivial⟩
  · subst ho; exact plain_of rfl
  subst ho
  cbv
  refine hO.co (Spec.call (spec_refat_bad n c t tm core kind fk flat h0 hN hmay) [.of 0] rfl rfl ?_ ?_ (fun out ho => ?_) (fun out ho => ?_))
  · cbv; repeat' apply And.intro
    all_goals first | exact trivial | exact ⟨rfl⟩ | exact noCap | exact ⟨hlen⟩ | exact ⟨hlen'⟩
  · exact ⟨⟨fun h => h, rfl, ⟨rfl⟩, fun e e' j h _ _ hj => rowL_le e e' j h hj⟩, trivial⟩
  · subst ho; exact plain_of rfl
  subst ho
  cbv
  refine hO.co (Spec.call (spec_same 0 0 [] (Int.le_refl _) rfl (by omega)) [.nil, .nil] rfl rfl ?_ ?_ (fun out ho => ?_) (fun out ho => ?_))
  · cbv; repeat' apply And.intro
    all_goals first | exact trivial | exact ⟨rfl⟩ | exact noCap | exact ⟨hlen⟩ | exact ⟨hlen'⟩
  · exact ⟨⟨rfl⟩, ⟨rfl⟩, trivial⟩
  · subst ho; exact plain_of rfl
  subst ho
  cbv
  refine hO.co (Spec.call (spec_longest_bad n kd tm core kind fk flat h0 hN hmay) [.of 0] rfl rfl ?_ ?_ (fun out ho => ?_) (fun out ho => ?_))
  · cbv; repeat' apply And.intro
    all_goals first | exact trivial | exact ⟨rfl⟩ | exact noCap | exact ⟨hlen⟩ | exact ⟨hlen'⟩
  · exact ⟨⟨fun h => h, rfl, ⟨rfl⟩, fun e e' j h _ _ hj => rowL_le e e' j h hj⟩, trivial⟩
  · subst ho; exact plain_of rfl
  subst ho
  cbv
  refine hO.co (Spec.call (spec_reflongest_bad n kd tm core kind fk flat h0 hN hmay) [.of 0] rfl rfl ?_ ?_ (fun out ho => ?_) (fun out ho => ?_))
  · cbv; repeat' apply And.intro
    all_goals first | exact trivial | exact ⟨rfl⟩ | exact noCap | exact ⟨hlen⟩ | exact ⟨hlen'⟩
  · exact ⟨⟨fun h => h, rfl, ⟨rfl⟩, fun e e' j h _ _ hj => rowL_le e e' j h hj⟩, trivial⟩
  · subst ho; exact plain_of rfl
  subst ho
  cbv
  refine hO.co (Spec.call (spec_counts n 0 n tm core kind fk flat c h0 (Int.le_refl _) (by omega) (by omega)) [.of 0] rfl rfl ?_ ?_ (fun out ho => ?_) (fun out ho => ?_))
  · cbv; repeat' apply And.intro
    all_goals first | exact trivial | exact ⟨rfl⟩ | exact noCap | exact ⟨hlen⟩ | exact ⟨hlen'⟩ | exact Int.le_refl _
  · exact ⟨⟨fun h => h, rfl, ⟨rfl⟩, fun e e' j h _ _ hj => rowL_le e e' j h hj⟩, trivial⟩
  · rw [ho.2 (by simp only [Int.zero_add]; exact hmay)]; exact plain_of rfl
  obtain rfl := ho.2 (by simp only [Int.zero_add]; exact hmay)
  cbv
  refine hO.co (Spec.call (spec_refcounts n n tm core kind fk flat c h0 rfl hN) [.of 0] rfl rfl ?_ ?_ (fun out ho => ?_) (fun out ho => ?_))
  · cbv; repeat' apply And.intro
    all_goals first | exact trivial | exact ⟨rfl⟩ | exact noCap | exact ⟨hlen⟩ | exact ⟨hlen'⟩
  · exact ⟨⟨fun h => h, rfl, ⟨rfl⟩, fun e e' j h _ _ hj => rowL_le e e' j h hj⟩, trivial⟩
  · rw [ho.2 hmay]; exact plain_of rfl
  obtain rfl := ho.2 hmay
  cbv
  refine hO.co (Spec.call (spec_may n tm core kind fk flat 0 n (Int.le_refl _) h0 (by omega) (by omega)) [.of 0] rfl rfl ?_ ?_ (fun out ho => ?_) (fun out ho => ?_))
  · cbv; repeat' apply And.intro
    all_goals first | exact trivial | exact ⟨rfl⟩ | exact noCap | exact ⟨hlen⟩ | exact Int.le_refl _
  · exact ⟨⟨fun h => h, rfl, ⟨rfl⟩, fun e e' j h _ _ hj => rowL_le e e' j h hj⟩, trivial⟩
  · subst ho; exact plain_of rfl
  subst ho
  simp only [Int.zero_add]
  rw [hmay]
  cbv
  refine hO.co (Spec.call (spec_refmay n tm core kind fk flat h0 (by omega)) [.of 0] rfl rfl ?_ ?_ (fun out ho => ?_) (fun out ho => ?_))
  · cbv; repeat' apply And.intro
    all_goals first | exact trivial | exact ⟨rfl⟩ | exact noCap | exact ⟨hlen⟩ | exact ⟨hlen'⟩
  · exact ⟨⟨fun h => h, rfl, ⟨rfl⟩, fun e e' j h _ _ hj => rowL_le e e' j h hj⟩, trivial⟩
  · subst ho; exact plain_of rfl
  subst ho
  rw [hmay]
  cbv
  refine hO.co (Spec.call (spec_cut n n tm core kind fk flat t h0 (Int.le_refl _) (by omega)) [.of 0] rfl rfl ?_ ?_ (fun out ho => ?_) (fun out ho => ?_))
  · cbv; repeat' apply And.intro
    all_goals first | exact trivial | exact ⟨rfl⟩ | exact noCap | exact ⟨hlen⟩ | exact ⟨hlen'⟩
  · exact ⟨⟨fun h => h, rfl, ⟨rfl⟩, fun e e' j h _ _ hj => rowL_le e e' j h hj⟩, trivial⟩
  · obtain ⟨k, _, rfl⟩ := ho; exact trivial
  obtain ⟨k, hk1, rfl⟩ := ho
  cbv
  refine hO.co (Spec.call (spec_refcut n n tm core kind fk flat t h0 (Int.le_refl _) (by omega)) [.of 0] rfl rfl ?_ ?_ (fun out ho => ?_) (fun out ho => ?_))
  · cbv; repeat' apply And.intro
    all_goals first | exact trivial | exact ⟨rfl⟩ | exact noCap | exact ⟨hlen⟩ | exact ⟨hlen'⟩
  · exact ⟨⟨fun h => h, rfl, ⟨rfl⟩, fun e e' j h _ _ hj => rowL_le e e' j h hj⟩, trivial⟩
  · obtain ⟨k, _, rfl⟩ := ho; exact trivial
  obtain ⟨k2, hk2, rfl⟩ := ho
  obtain rfl := cut_unique hk1 hk2
  have hk0 := hk1.h0
  have hkn := hk1.hn
  cbv
  refine hO.co (Spec.call (spec_samelogs k n tm core kind fk flat hk0 hkn (by omega)) [.of 0] rfl rfl ?_ ?_ (fun out ho => ?_) (fun out ho => ?_))
  · cbv; repeat' apply And.intro
    all_goals first | exact trivial | exact ⟨rfl⟩ | exact noCap | exact ⟨hlen⟩ | exact ⟨hlen'⟩
  · exact ⟨⟨fun h => h, rfl, ⟨rfl⟩, fun e e' j h _ _ hj => rowL_le e e' j h hj⟩, trivial⟩
  · subst ho; exact plain_of rfl
  subst ho
  cbv
  refine hO.co (call_closed wakes_ok ?_)
  cbv
end
/-- the law, whatever the log -/
theorem walk_tell (c : Int) (t : Int) (kd : Int) (hk : I8 kd) : WalkL2 7 [.int .i64 (.sh c), .int .i64 (.sh t), .int .i8 (.sh kd)] := by
  intro C n m tm core kind fk flat xs h0 hn hm hmm hr
  by_cases hN : n ≤ 300
  · by_cases hM : m ≤ 50
    · cases hmay : mayB n tm core kind with
      | false => exact (tell_bad C n m tm core kind fk flat xs c t kd h0 hN hm hM hmay hk).h
      | true =>
        by_cases hm0 : m = 0
        · exact (tell_none C n m tm core kind fk flat xs c t kd h0 hN hm hm0 hmay (fun i a b => (hr i a b).1.2) hk).h
        · exact (tell_good C n m tm core kind fk flat xs c t kd h0 hN hm (by omega) hM hmay (fun i a b => (hr i a b).1.2) hk).h
    · refine (CallOb.of_run (X := Xf7) m1 (by decide +kernel) (by decide +kernel) 3000 fun O hO => ?_).h
      cbv
      refine Br.mk (fun h => ?_) (fun _ => ?_)
      · refine hO.co (call_closed wakes_ok ?_)
        cbv
      refine Br.mk (fun h => ?_) (fun h => ?_)
      · refine hO.co (call_closed wakes_ok ?_)
        cbv
      · rw [f_gtr] at h
        simp only [E.i_sh, E.i_lit] at h
        omega
  · refine (CallOb.of_run (X := Xf7) m1 (by decide +kernel) (by decide +kernel) 3000 fun O hO => ?_).h
    cbv
    refine Br.mk (fun h => ?_) (fun h => ?_)
    · refine hO.co (call_closed wakes_ok ?_)
      cbv
    · rw [f_gtr] at h
      simp only [E.i_sh, E.i_lit] at h
      omega
end Go.Sx
