import Derived.Test.YtpkapjlcmoikoaaSpFr
import Derived.Test.YtpkapjlcmoikoaaSpO
set_option linter.all false
/-
  The reference's Spans.
-/
namespace Go.Sx
open Go
def Xf16 : Cfg := ⟨[16], [10, 35], false⟩
set_option maxRecDepth 100000
set_option maxHeartbeats 4000000
set_option linter.all false
theorem wrap8 {x : Int} (h1 : -128 ≤ x) (h2 : x < 128) : IntKind.i8.wrap x = x := by
  simp only [IntKind.wrap, IntKind.bits, IntKind.signed]
  simp
  omega
section
variable (tm core kind : Int → Int)
def refTo (c : Int) (n i : Nat) (k : Int) : List Sp := if k ≤ 0 then [] else if k = 1 then refAt tm core kind c n i 0 else if k = 2 then refAt tm core kind c n i 0 ++ refAt tm core kind c n i 1 else refL tm core kind c n i
theorem refTo_succ (c : Int) (n i : Nat) {k : Int} (hk : k = 0 ∨ k = 1 ∨ k = 2) : refTo tm core kind c n i (k + 1) = refTo tm core kind c n i k ++ refAt tm core kind c n i k := by
  rcases hk with rfl | rfl | rfl <;> simp [refTo, refL]
theorem refTo_yes (c : Int) (n i : Nat) {k : Int} (hk : k = 0 ∨ k = 1 ∨ k = 2) (ho : opensAt tm core kind c k i = true) : refTo tm core kind c n i (k + 1) = refTo tm core kind c n i k ++ [refS tm core kind c k i (n - 1 - i)] := by
  rw [refTo_succ tm core kind c n i hk]
  unfold refAt
  rw [if_pos ho]
theorem refTo_no (c : Int) (n i : Nat) {k : Int} (hk : k = 0 ∨ k = 1 ∨ k = 2) (ho : opensAt tm core kind c k i = false) : refTo tm core kind c n i (k + 1) = refTo tm core kind c n i k := by
  rw [refTo_succ tm core kind c n i hk]
  unfold refAt
  rw [if_neg (by rw [ho]; decide), List.append_nil]
theorem refAt_len (c : Int) (n i : Nat) (k : Int) : (refAt tm core kind c n i k).length ≤ 1 := by
  unfold refAt; split <;> simp
theorem refTo_len (c : Int) (n i : Nat) (k : Int) : (refTo tm core kind c n i k).length ≤ 3 := by
  have h0 := refAt_len tm core kind c n i 0
  have h1 := refAt_len tm core kind c n i 1
  have h2 := refAt_len tm core kind c n i 2
  unfold refTo refL
  split
  · simp
  · split
    · omega
    · split
      · rw [List.length_append]; omega
      · rw [List.length_append, List.length_append]; omega
/-- up to a place -/
def refUp (c : Int) (n : Nat) (i : Int) : List Sp := (List.range i.toNat).flatMap (refL tm core kind c n)
theorem refUp_succ (c : Int) (n : Nat) {i : Int} (h0 : 0 ≤ i) : refUp tm core kind c n (i + 1) = refUp tm core kind c n i ++ refTo tm core kind c n i.toNat 3 := by
  unfold refUp
  rw [show (i + 1).toNat = i.toNat + 1 by omega, List.range_succ, List.flatMap_append, List.flatMap_cons, List.flatMap_nil, List.append_nil]
  rfl
theorem refUp_len (c : Int) (n : Nat) (i : Int) : (refUp tm core kind c n i).length ≤ 3 * i.toNat := by
  unfold refUp
  generalize i.toNat = m
  induction m with
  | zero => simp
  | succ m ih =>
    rw [List.range_succ, List.flatMap_append, List.flatMap_cons, List.flatMap_nil, List.append_nil, List.length_append]
    have := refTo_len tm core kind c n m 3
    have e : refTo tm core kind c n m 3 = refL tm core kind c n m := rfl
    rw [e] at this
    omega
end
section
variable (n : Int) (tm core kind fk flat : Int → Int) (c : Int)
theorem spec_refspans (h0 : 0 ≤ n) (hN : n ≤ 300) (hmay : mayB n tm core kind = true) : Spec PP 16 [.sl 0 5 (.c 0) (.sh n) none, .int .i64 (.sh c)] [(0, false, .row 31 5 (.sh n) (rowL tm core kind fk flat))] 1
    (fun out => ∃ len M, M = spans tm core kind c n.toNat ∧ len = (M.length : Int) ∧ out = .row (fun h => .tup [.sl h 5 (.c 0) (.sh len) none, .int .i64 (.lit 0)]) 33 5 (.sh len) (spF M)) := by
  intro C
  have hok := (mayB_iff n _ _ _).1 hmay
  refine CallOb.of_run (X := Xf16) m1 (by decide +kernel) (by decide +kernel) 3000 fun O hO => ?_
  cbv
  refine hO.co (Spec.call (spec_refmay n tm core kind fk flat h0 (by omega)) [.of 0] rfl rfl ?_ ?_ (fun out ho => ?_) (fun out ho => ?_))
  · cbv; repeat' apply And.intro
    all_goals first | exact trivial | exact ⟨rfl⟩ | exact noCap
  · cbv; exact ⟨⟨fun h => h, ⟨rfl⟩, fun e e' j h _ _ hj => rowL_le e e' j h hj⟩, trivial⟩
  · subst ho; exact plain_of rfl
  subst ho
  rw [hmay]
  cbv
  refine hO.lo (loop_rule' (ι := { y : Int × Int × List Sp // 0 ≤ y.1 ∧ y.1 ≤ n ∧ y.2.2 = refUp tm core kind c n.toNat y.1 ∧ y.2.1 = y.2.2.length })
    (fun st y => ⟨liveK st.tmps [0, 1, 4, 5] [(6, .sl 1 5 (.c 0) (.sh y.1.2.1) none), (7, .int .i64 (.sh y.1.1))],
      (1, true, .row 33 5 (.sh y.1.2.1) (spF y.1.2.2)) :: (0, false, .row 31 5 (.sh n) (rowL tm core kind fk flat)) :: [], 2, []⟩)
    (fun y => (n - y.1.1).toNat) ⟨(0, 0, []), by simp, by simpa using h0, by simp [refUp], by simp⟩ [.nil] ?_ (fun h hh => by cases hh) (fun _ => rfl) fun y => ?_)
  · constructor
    · cbv; repeat' apply And.intro
      all_goals first | exact trivial | exact ⟨rfl⟩ | exact noCap
    · cbv; repeat' apply And.intro
      all_goals first | exact trivial | exact fun h => h | exact ⟨rfl⟩ | rfl | exact fun e e' j h _ _ hj => rowL_le e e' j h hj
    · cbv
    · cbv
    · cbv
  · obtain ⟨⟨i, len, L⟩, hi0, hi, hL, hlen⟩ := y
    simp only at hi0 hi hL hlen
    have hlen1 : 0 ≤ len ∧ len ≤ 900 := by
      have := refUp_len tm core kind c n.toNat i
      rw [← hL] at this
      omega
    refine Snd.of_run (X := Xf16) m1 (by decide +kernel) (by decide +kernel) 3000 (by decide +kernel) fun O1 hO1 => ?_
    cbv
    refine Br.mk (fun hlt => ?_) (fun hge => ?_)
    · rw [t_lss] at hlt
      simp only [E.i_sh] at hlt
      refine hO1.lo (loop_rule' (ι := { y : Int × Int × List Sp // 0 ≤ y.1 ∧ y.1 ≤ 3 ∧ y.2.2 = L ++ refTo tm core kind c n.toNat i.toNat y.1 ∧ y.2.1 = y.2.2.length })
        (fun st y => ⟨liveK st.tmps [0, 1, 4, 5, 7] [(6, .sl 2 5 (.c 0) (.sh y.1.2.1) none), (8, .int .i8 (.sh y.1.1))],
          (2, true, .row 33 5 (.sh y.1.2.1) (spF y.1.2.2)) :: (0, false, .row 31 5 (.sh n) (rowL tm core kind fk flat)) :: [], 3, []⟩)
        (fun y => (3 - y.1.1).toNat) ⟨(0, len, L), by simp, by simp, by simp [refTo], hlen⟩ [.of 1] ?_ (fun h hh => by cases hh) (fun _ => rfl) fun y => ?_)
      · constructor
        · cbv; repeat' apply And.intro
          all_goals first | exact trivial | exact ⟨rfl⟩ | exact noCap
        · cbv; repeat' apply And.intro
          all_goals first | exact trivial | exact fun h => h | exact ⟨rfl⟩ | rfl | exact fun e e' j h _ _ hj => rowL_le e e' j h hj | exact fun e e' j h _ _ hj => spF_le e e' j h hj
        · cbv
        · cbv
        · cbv
      · obtain ⟨⟨k, ln, S⟩, hk0, hk3, hS, hln⟩ := y
        simp only at hk0 hk3 hS hln
        have hln1 : 0 ≤ ln ∧ ln ≤ 903 := by
          have := refTo_len tm core kind c n.toNat i.toNat k
          have e : (S.length : Int) = (L.length : Int) + ((refTo tm core kind c n.toNat i.toNat k).length : Int) := by rw [hS, List.length_append]; rfl
          have hlen : len = (L.length : Int) := hlen
          omega
        refine Snd.of_run (X := Xf16) m1 (by decide +kernel) (by decide +kernel) 3000 (by decide +kernel) fun O2 hO2 => ?_
        cbv
        refine Br.mk (fun hle => ?_) (fun hgt => ?_)
        · rw [t_leq] at hle
          simp only [E.i_sh, E.i_lit] at hle
          have hk : k = 0 ∨ k = 1 ∨ k = 2 := by omega
          refine hO2.co (Spec.call (spec_from' n tm core kind fk flat c k i hk hN hi0 hlt hok) [.of 0] rfl rfl ?_ ?_ (fun out ho => ?_) (fun out ho => ?_))
          · cbv; repeat' apply And.intro
            all_goals first | exact trivial | exact ⟨rfl⟩ | exact noCap
          · cbv; exact ⟨⟨fun h => h, ⟨rfl⟩, fun e e' j h _ _ hj => rowL_le e e' j h hj⟩, trivial⟩
          · rcases ho with ⟨_, rfl⟩ | ⟨s, _, _, rfl⟩ <;> exact plain_of rfl
          rcases ho with ⟨hop, rfl⟩ | ⟨s, hop, hs, rfl⟩
          · cbv
            refine ⟨⟨(k + 1, ln, S), by simp only; omega, by simp only; omega, by simp only; rw [refTo_no tm core kind c n.toNat i.toNat hk hop]; exact hS, hln⟩, [.of 2], ⟨?_, ?_, ?_, ?_, ?_⟩, ?_⟩
            · cbv; repeat' apply And.intro
              all_goals first | exact trivial | exact ⟨rfl⟩ | exact noCap | exact ⟨wrap8 (x := k + 1) (by omega) (by omega)⟩
            · cbv; repeat' apply And.intro
              all_goals first | exact trivial | exact fun h => h | exact ⟨rfl⟩ | rfl | exact fun e e' j h _ _ hj => rowL_le e e' j h hj | exact fun e e' j h _ _ hj => spF_le e e' j h hj
            · cbv
            · cbv
            · cbv
            · simp only; omega
          · cbv
            refine Ast.mk (by rw [t_leq]; exact Int.le_refl _) (Ast.mk (by rw [t_leq]; simp only [E.i_plus, E.i_sh, E.i_lit, Int.ofNat_eq_natCast]; omega) ?_)
            obtain ⟨S2, hS2⟩ : ∃ z, z = S ++ [s] := ⟨_, rfl⟩
            obtain ⟨l2, hl2⟩ : ∃ z : Int, z = ln + 1 := ⟨_, rfl⟩
            have hS3 : S2 = L ++ refTo tm core kind c n.toNat i.toNat (k + 1) := by
              rw [refTo_yes tm core kind c n.toNat i.toNat hk hop, hS2, hS, List.append_assoc, hs, show (n - 1 - i).toNat = n.toNat - 1 - i.toNat by omega]
            have hl3 : l2 = (S2.length : Int) := by rw [hS2, hl2, hln]; simp
            refine ⟨⟨(k + 1, l2, S2), by simp only; omega, by simp only; omega, hS3, hl3⟩, [.of 5], ⟨?_, ?_, ?_, ?_, ?_⟩, ?_⟩
            · cbv; repeat' apply And.intro
              all_goals first | exact trivial | exact ⟨rfl⟩ | exact noCap | exact ⟨hl2.symm⟩ | exact ⟨wrap8 (x := k + 1) (by omega) (by omega)⟩
            · cbv; repeat' apply And.intro
              all_goals first | exact trivial | exact fun h => h | exact ⟨rfl⟩ | rfl | exact ⟨hl2.symm⟩ | exact fun e e' j h _ _ hj => rowL_le e e' j h hj | exact fun e e' j h _ _ hj => spF_le e e' j h hj | (rw [hS2]; exact snoc_le (z := .lit (Int.ofNat 0)) (n := .sh ln) (n' := .plus (.sh ln) (.lit (Int.ofNat 1))) rfl hln (congrArg (· + 1) hln) rfl rfl rfl rfl rfl)
            · cbv
            · cbv
            · cbv
            · simp only; omega
        · rw [f_leq] at hgt
          simp only [E.i_sh, E.i_lit] at hgt
          have hk : k = 3 := by omega
          refine ⟨⟨(i + 1, ln, S), by simp only; omega, by simp only; omega, by simp only; rw [refUp_succ tm core kind c n.toNat hi0, ← hL, ← hk]; exact hS, hln⟩, [.of 2], ⟨?_, ?_, ?_, ?_, ?_⟩, ?_⟩
          · cbv; repeat' apply And.intro
            all_goals first | exact trivial | exact ⟨rfl⟩ | exact noCap | exact ⟨wrap64 (x := i + 1) (by omega) (by omega)⟩
          · cbv; repeat' apply And.intro
            all_goals first | exact trivial | exact fun h => h | exact ⟨rfl⟩ | rfl | exact fun e e' j h _ _ hj => rowL_le e e' j h hj | exact fun e e' j h _ _ hj => spF_le e e' j h hj
          · cbv
          · cbv
          · cbv
          · simp only; omega
    · rw [f_lss] at hge
      simp only [E.i_sh] at hge
      have hin : i = n := by omega
      exact ⟨_, ⟨len, L, by rw [hL, hin, spans_ref]; rfl, hlen, rfl⟩, 1, by decide, rfl, rfl⟩
end
end Go.Sx
