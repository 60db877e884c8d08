import Derived.Test.YtpkapjlcmoikoaaSpTl
set_option linter.all false
/-
  SpansTell: the walk, of no cores.
-/
namespace Go.Sx
open Go
set_option maxRecDepth 100000
set_option maxHeartbeats 8000000
set_option linter.all false
theorem allSp_none (tm core kind : Int → Int) (want : Int → Bool) (h : ∀ x, want x = false) : ∀ n, allSp tm core kind want n = []
  | 0 => rfl
  | n + 1 => by
    have ih := allSp_none tm core kind want h n
    simp only [allSp]
    rw [ih, h]
    rfl
section
variable (C : Cx) (n m : Int) (tm core kind fk flat : Int → Int) (xs : List Int) (c t kd : Int)
theorem tell_none (h0 : 0 ≤ n) (hN : n ≤ 300) (hm : m = xs.length) (hm0 : m = 0) (hmay : mayB n tm core kind = true) (hr : ∀ i, 0 ≤ i → i < n → tm i < 9223372036854775808) (hk : I8 kd) :
    CallOb PP C 7 [.sl 0 5 (.c 0) (.sh n) none, .sl 1 1 (.c 0) (.sh m) none, .int .i64 (.sh c), .int .i64 (.sh t), .int .i8 (.sh kd)] [(1, false, .row 3 1 (.sh m) (intRow (listI xs))), (0, false, .row 31 5 (.sh n) (rowL tm core kind fk flat))] 2 (fun s _ _ => s = .bool (.bl true)) := by
  have hok := (mayB_iff n _ _ _).1 hmay
  have hlx : xs.length ≤ 50 := by omega
  have hxs : xs = [] := List.length_eq_zero_iff.1 (by omega)
  refine CallOb.of_runP (X := Xf7) (fun _ => none) (knOf [131, 136, 141] []) m1 (by decide +kernel) (by decide +kernel) 3000 fun O hO => ?_
  cbv
  refine Br.mk (fun h => ?_) (fun _ => ?_)
  · rw [t_gtr] at h
    simp only [E.i_sh, E.i_lit] at h
    omega
  refine Br.mk (fun h => ?_) (fun _ => ?_)
  · rw [t_gtr] at h
    simp only [E.i_sh, E.i_lit] at h
    omega
  refine hO.co (Spec.call (spec_all n n tm core kind fk flat [c] h0 (Int.le_refl _) (by omega) (by simp) (by simp) hmay hr 1 rfl) [.of 0, .of 2] rfl rfl ?_ ?_ (fun out ho => ?_) (fun out ho => ?_))
  · cbv; repeat' apply And.intro
    all_goals first | exact trivial | exact ⟨rfl⟩ | exact noCap | exact ⟨hlen⟩ | exact ⟨hlen'⟩
  · exact ⟨⟨(fun h => by cases h), one_row rfl⟩, ⟨fun h => h, rfl, ⟨rfl⟩, fun e e' j h _ _ hj => rowL_le e e' j h hj⟩, trivial⟩
  · obtain ⟨len, M, _, rfl⟩ := ho; exact all_plain
  obtain ⟨l1, M1, hA, rfl⟩ := ho
  have hM1 : M1 = spans tm core kind c n.toNat := by rw [hA.l]; exact allSp_one c _ (fun x => by simp) _
  have hl1 : l1 = (M1.length : Int) := hA.len
  have hl10 : 0 ≤ l1 := by omega
  clear hA
  cbv
  refine hO.co (Spec.call (spec_refspans n tm core kind fk flat c h0 hN hmay) [.of 0] rfl rfl ?_ ?_ (fun out ho => ?_) (fun out ho => ?_))
  · cbv; repeat' apply And.intro
    all_goals first | exact trivial | exact ⟨rfl⟩ | exact noCap | exact ⟨hlen⟩ | exact ⟨hlen'⟩
  · exact ⟨⟨fun h => h, rfl, ⟨rfl⟩, fun e e' j h _ _ hj => rowL_le e e' j h hj⟩, trivial⟩
  · obtain ⟨len, M, _, _, rfl⟩ := ho; exact all_plain
  obtain ⟨l2, M2, hM2, hl2, rfl⟩ := ho
  have hl2 : l2 = (M2.length : Int) := hl2
  have hl1 : l1 = (M1.length : Int) := hl1
  have hM9 := spans_len3 tm core kind c n hN M1 hM1
  have hl19 : l1 ≤ 4611686018427387904 := by omega
  have h21 : l2 = l1 := by rw [hl1, hl2, hM1, hM2]
  have e21 : M2 = M1 := by rw [hM1, hM2]
  subst e21
  cbv
  refine hO.co (Spec.call (spec_same l1 l2 M2 hl10 h21 hl19) [.of 3, .of 4] rfl rfl ?_ ?_ (fun out ho => ?_) (fun out ho => ?_))
  · cbv; repeat' apply And.intro
    all_goals first | exact trivial | exact ⟨rfl⟩ | exact noCap | exact ⟨hlen⟩ | exact ⟨hlen'⟩
  · exact ⟨⟨(fun h => by cases h), rfl, ⟨rfl⟩, fun e e' j h _ _ hj => spF_le e e' j h hj⟩, ⟨(fun h => by cases h), rfl, ⟨rfl⟩, fun e e' j h _ _ hj => spF_le e e' j h hj⟩, trivial⟩
  · subst ho; exact plain_of rfl
  subst ho
  cbv
  refine hO.co (Spec.call (spec_all_none n n tm core kind fk flat (listI xs) h0 (Int.le_refl _) (by omega) hmay) [.of 0, .of 1] rfl rfl ?_ ?_ (fun out ho => ?_) (fun out ho => ?_))
  · cbv; repeat' apply And.intro
    all_goals first | exact trivial | exact ⟨rfl⟩ | exact noCap | exact ⟨hlen⟩ | exact ⟨hm0⟩
  · exact ⟨⟨fun h => h, rfl, ⟨hm0⟩, fun e e' j h _ _ hj => intRow_le e e' j h hj⟩, ⟨fun h => h, rfl, ⟨rfl⟩, fun e e' j h _ _ hj => rowL_le e e' j h hj⟩, trivial⟩
  · subst ho; exact plain_of rfl
  subst ho
  cbv
  refine hO.co (Spec.call (spec_refall n tm core kind fk flat xs h0 hN hmay hlx m hm) [.of 0, .of 1] rfl rfl ?_ ?_ (fun out ho => ?_) (fun out ho => ?_))
  · cbv; repeat' apply And.intro
    all_goals first | exact trivial | exact ⟨rfl⟩ | exact noCap | exact ⟨hlen⟩ | exact ⟨hlen'⟩
  · exact ⟨⟨fun h => h, rfl, ⟨rfl⟩, fun e e' j h _ _ hj => intRow_le e e' j h hj⟩, ⟨fun h => h, rfl, ⟨rfl⟩, fun e e' j h _ _ hj => rowL_le e e' j h hj⟩, trivial⟩
  · obtain ⟨len, M, _, _, rfl⟩ := ho; exact all_plain
  obtain ⟨l4, M4, hM4, hl4, rfl⟩ := ho
  have hM40 : M4 = [] := by rw [hM4, hxs]; exact allSp_none tm core kind _ (fun x => by simp) _
  have h40 : l4 = 0 := by rw [hl4, hM40]; rfl
  subst hM40
  cbv
  refine hO.co (Spec.call (spec_same 0 l4 [] (Int.le_refl _) h40 (by omega)) [.nil, .of 5] rfl rfl ?_ ?_ (fun out ho => ?_) (fun out ho => ?_))
  · cbv; repeat' apply And.intro
    all_goals first | exact trivial | exact ⟨rfl⟩ | exact noCap | exact ⟨hlen⟩ | exact ⟨hlen'⟩
  · exact ⟨⟨(fun h => by cases h), rfl, ⟨rfl⟩, fun e e' j h _ _ hj => spF_le e e' j h hj⟩, ⟨rfl⟩, trivial⟩
  · subst ho; exact plain_of rfl
  subst ho
  cbv
  refine hO.co (Spec.call (spec_at n c t tm core kind fk flat h0 hN hmay hr) [.of 0] rfl rfl ?_ ?_ (fun out ho => ?_) (fun out ho => ?_))
  · cbv; repeat' apply And.intro
    all_goals first | exact trivial | exact ⟨rfl⟩ | exact noCap | exact ⟨hlen⟩ | exact ⟨hlen'⟩
  · exact ⟨⟨fun h => h, rfl, ⟨rfl⟩, fun e e' j h _ _ hj => rowL_le e e' j h hj⟩, trivial⟩
  · obtain ⟨len, M, _, _, _, rfl⟩ := ho; exact all_plain
  obtain ⟨l5, L5, hL5, hl5, hl5', rfl⟩ := ho
  have hl5' : l5 ≤ (L5.length : Int) := hl5'
  have hq5 : l5.toNat ≤ L5.length := by omega
  cbv
  refine hO.co (Spec.call (spec_refat n c t tm core kind fk flat h0 hN hmay) [.of 0] rfl rfl ?_ ?_ (fun out ho => ?_) (fun out ho => ?_))
  · cbv; repeat' apply And.intro
    all_goals first | exact trivial | exact ⟨rfl⟩ | exact noCap | exact ⟨hlen⟩ | exact ⟨hlen'⟩
  · exact ⟨⟨fun h => h, rfl, ⟨rfl⟩, fun e e' j h _ _ hj => rowL_le e e' j h hj⟩, trivial⟩
  · obtain ⟨len, M, _, _, rfl⟩ := ho; exact all_plain
  obtain ⟨l6, M6, hM6, hl6, rfl⟩ := ho
  have hl6 : l6 = (M6.length : Int) := hl6
  have e65 : M6 = L5.take l5.toNat := by rw [hM6, hL5]
  have hm6 : M6.length = l5.toNat := by rw [e65, List.length_take, Nat.min_eq_left hq5]
  have h65 : l6 = l5 := by omega
  have h59 : l5 ≤ 4611686018427387904 := by
    have h1 := List.length_filter_le (atB t) (spans tm core kind c n.toNat)
    rw [← hM6] at h1
    have h2 := spans_len3 tm core kind c n hN _ rfl
    omega
  have hn5 : (E.sh l5).i = (l5.toNat : Nat) := by rw [E.i_sh]; omega
  cbv
  refine hO.co (Spec.call (spec_same l5 l6 M6 hl5 h65 h59) [.of 6, .of 7] rfl rfl ?_ ?_ (fun out ho => ?_) (fun out ho => ?_))
  · cbv; repeat' apply And.intro
    all_goals first | exact trivial | exact ⟨rfl⟩ | exact noCap | exact ⟨hlen⟩ | exact ⟨hlen'⟩
  · exact ⟨⟨(fun h => by cases h), rfl, ⟨rfl⟩, fun e e' j h _ _ hj => spF_le e e' j h hj⟩, ⟨(fun h => by cases h), rfl, ⟨rfl⟩, by rw [e65]; exact take_le hn5 hq5⟩, trivial⟩
  · subst ho; exact plain_of rfl
  subst ho
  cbv
  refine hO.co (Spec.call (spec_longest n n kd tm core kind fk flat h0 (Int.le_refl _) hN hmay hr hk) [.of 0] rfl rfl ?_ ?_ (fun out ho => ?_) (fun out ho => ?_))
  · cbv; repeat' apply And.intro
    all_goals first | exact trivial | exact ⟨rfl⟩ | exact noCap | exact ⟨hlen⟩ | exact ⟨hlen'⟩
  · exact ⟨⟨fun h => h, rfl, ⟨rfl⟩, fun e e' j h _ _ hj => rowL_le e e' j h hj⟩, trivial⟩
  · obtain ⟨b, _, rfl⟩ := ho; exact plain_of rfl
  obtain ⟨b, hb, rfl⟩ := ho
  cbv
  refine hO.co (Spec.call (spec_reflongest n kd tm core kind fk flat h0 hN hmay hr) [.of 0] rfl rfl ?_ ?_ (fun out ho => ?_) (fun out ho => ?_))
  · cbv; repeat' apply And.intro
    all_goals first | exact trivial | exact ⟨rfl⟩ | exact noCap | exact ⟨hlen⟩ | exact ⟨hlen'⟩
  · exact ⟨⟨fun h => h, rfl, ⟨rfl⟩, fun e e' j h _ _ hj => rowL_le e e' j h hj⟩, trivial⟩
  · obtain ⟨b, _, rfl⟩ := ho; exact plain_of rfl
  obtain ⟨b2, hb2, rfl⟩ := ho
  obtain rfl := hb2.trans hb.symm
  cbv
  refine hO.co (Spec.call (spec_counts n 0 n tm core kind fk flat c h0 (Int.le_refl _) (by omega) (by omega)) [.of 0] rfl rfl ?_ ?_ (fun out ho => ?_) (fun out ho => ?_))
  · cbv; repeat' apply And.intro
    all_goals first | exact trivial | exact ⟨rfl⟩ | exact noCap | exact ⟨hlen⟩ | exact ⟨hlen'⟩ | exact Int.le_refl _
  · exact ⟨⟨fun h => h, rfl, ⟨rfl⟩, fun e e' j h _ _ hj => rowL_le e e' j h hj⟩, trivial⟩
  · rw [ho.1 (by simp only [Int.zero_add]; exact hmay)]; exact plain_of rfl
  obtain rfl := ho.1 (by simp only [Int.zero_add]; exact hmay)
  simp only [Int.zero_add]
  cbv
  refine hO.co (Spec.call (spec_refcounts n n tm core kind fk flat c h0 rfl hN) [.of 0] rfl rfl ?_ ?_ (fun out ho => ?_) (fun out ho => ?_))
  · cbv; repeat' apply And.intro
    all_goals first | exact trivial | exact ⟨rfl⟩ | exact noCap | exact ⟨hlen⟩ | exact ⟨hlen'⟩
  · exact ⟨⟨fun h => h, rfl, ⟨rfl⟩, fun e e' j h _ _ hj => rowL_le e e' j h hj⟩, trivial⟩
  · rw [ho.1 hmay]; exact plain_of rfl
  obtain rfl := ho.1 hmay
  cbv
  refine hO.co (Spec.call (spec_may n tm core kind fk flat 0 n (Int.le_refl _) h0 (by omega) (by omega)) [.of 0] rfl rfl ?_ ?_ (fun out ho => ?_) (fun out ho => ?_))
  · cbv; repeat' apply And.intro
    all_goals first | exact trivial | exact ⟨rfl⟩ | exact noCap | exact ⟨hlen⟩ | exact Int.le_refl _
  · exact ⟨⟨fun h => h, rfl, ⟨rfl⟩, fun e e' j h _ _ hj => rowL_le e e' j h hj⟩, trivial⟩
  · subst ho; exact plain_of rfl
  subst ho
  simp only [Int.zero_add]
  rw [hmay]
  cbv
  refine hO.co (Spec.call (spec_refmay n tm core kind fk flat h0 (by omega)) [.of 0] rfl rfl ?_ ?_ (fun out ho => ?_) (fun out ho => ?_))
  · cbv; repeat' apply And.intro
    all_goals first | exact trivial | exact ⟨rfl⟩ | exact noCap | exact ⟨hlen⟩ | exact ⟨hlen'⟩
  · exact ⟨⟨fun h => h, rfl, ⟨rfl⟩, fun e e' j h _ _ hj => rowL_le e e' j h hj⟩, trivial⟩
  · subst ho; exact plain_of rfl
  subst ho
  rw [hmay]
  cbv
  refine KnownAs.mk (by repeat' (first | exact eq_self _ | apply and_t | rfl)) ?_
  refine KnownAs.mk beq_self ?_
  refine KnownAs.mk (by repeat' (first | exact eq_self _ | apply and_t | rfl)) ?_
  refine hO.co (Spec.call (spec_cut n n tm core kind fk flat t h0 (Int.le_refl _) (by omega)) [.of 0] rfl rfl ?_ ?_ (fun out ho => ?_) (fun out ho => ?_))
  · cbv; repeat' apply And.intro
    all_goals first | exact trivial | exact ⟨rfl⟩ | exact noCap | exact ⟨hlen⟩ | exact ⟨hlen'⟩
  · exact ⟨⟨fun h => h, rfl, ⟨rfl⟩, fun e e' j h _ _ hj => rowL_le e e' j h hj⟩, trivial⟩
  · obtain ⟨k, _, rfl⟩ := ho; exact trivial
  obtain ⟨k, hk1, rfl⟩ := ho
  cbv
  refine hO.co (Spec.call (spec_refcut n n tm core kind fk flat t h0 (Int.le_refl _) (by omega)) [.of 0] rfl rfl ?_ ?_ (fun out ho => ?_) (fun out ho => ?_))
  · cbv; repeat' apply And.intro
    all_goals first | exact trivial | exact ⟨rfl⟩ | exact noCap | exact ⟨hlen⟩ | exact ⟨hlen'⟩
  · exact ⟨⟨fun h => h, rfl, ⟨rfl⟩, fun e e' j h _ _ hj => rowL_le e e' j h hj⟩, trivial⟩
  · obtain ⟨k, _, rfl⟩ := ho; exact trivial
  obtain ⟨k2, hk2, rfl⟩ := ho
  obtain rfl := cut_unique hk1 hk2
  have hk0 := hk1.h0
  have hkn := hk1.hn
  cbv
  refine hO.co (Spec.call (spec_samelogs k n tm core kind fk flat hk0 hkn (by omega)) [.of 0] rfl rfl ?_ ?_ (fun out ho => ?_) (fun out ho => ?_))
  · cbv; repeat' apply And.intro
    all_goals first | exact trivial | exact ⟨rfl⟩ | exact noCap | exact ⟨hlen⟩ | exact ⟨hlen'⟩
  · exact ⟨⟨fun h => h, rfl, ⟨rfl⟩, fun e e' j h _ _ hj => rowL_le e e' j h hj⟩, trivial⟩
  · subst ho; exact plain_of rfl
  subst ho
  cbv
  refine hO.co (call_closed wakes_ok ?_)
  cbv
end
end Go.Sx
