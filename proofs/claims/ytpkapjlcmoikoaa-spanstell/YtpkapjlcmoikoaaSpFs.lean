import Derived.Test.YtpkapjlcmoikoaaSpRef
set_option linter.all false
/-
  The second loop of from, plain.
-/
namespace Go.Sx
open Go
set_option linter.all false
section
variable (tm core kind : Int → Int) (c k i : Int)
/-- the span so far, at place m of the loop -/
def stS (m : Int) : Sp := if m = i then ⟨c, k, tm i, -1, 0⟩ else refS tm core kind c k i.toNat (m - 1 - i).toNat
theorem refS_kind (c k : Int) (i : Nat) : ∀ d, (refS tm core kind c k i d).kind = k
  | 0 => rfl
  | d + 1 => by
    have ih := refS_kind c k i d
    simp only [refS]
    split
    · rw [updS_kind]; exact ih
    · exact ih
theorem stS_kind (m : Int) : (stS tm core kind c k i m).kind = k := by
  unfold stS
  split
  · rfl
  · exact refS_kind tm core kind c k _ _
theorem stS_first (h0 : 0 ≤ i) : stS tm core kind c k i (i + 1) = ⟨c, k, tm i, -1, 1⟩ := by
  unfold stS
  rw [if_neg (by omega), show (i + 1 - 1 - i).toNat = 0 by omega]
  simp only [refS]
  rw [show ((i.toNat : Nat) : Int) = i by omega]
theorem stS_succ (h0 : 0 ≤ i) {m : Int} (hm : i < m) : stS tm core kind c k i (m + 1) = if core m = c then updS (kind m) (tm m) (stS tm core kind c k i m) else stS tm core kind c k i m := by
  unfold stS
  rw [if_neg (show ¬ m + 1 = i by omega), if_neg (show ¬ m = i by omega), show (m + 1 - 1 - i).toNat = (m - 1 - i).toNat + 1 by omega]
  simp only [refS]
  rw [show ((i.toNat + 1 + (m - 1 - i).toNat : Nat) : Int) = m by omega]
/-- shut, it stays as it is -/
theorem stS_shut (h0 : 0 ≤ i) {m : Int} (hm : i < m) (hs : (stS tm core kind c k i m).to ≠ -1) : ∀ e : Nat, stS tm core kind c k i (m + e) = stS tm core kind c k i m
  | 0 => by rw [Int.natCast_zero, Int.add_zero]
  | e + 1 => by
    have ih := stS_shut h0 hm hs e
    rw [show m + ((e + 1 : Nat) : Int) = (m + e) + 1 by omega, stS_succ tm core kind c k i h0 (by omega), ih]
    split
    · unfold updS
      rw [if_neg hs]
    · rfl
theorem stS_end {n : Int} (hn : i < n) : stS tm core kind c k i n = refS tm core kind c k i.toNat (n - 1 - i).toNat := by
  unfold stS
  rw [if_neg (by omega)]
theorem stS_facts (h0 : 0 ≤ i) {n : Int} (ht : ∀ j : Int, 0 ≤ j → j < n → 0 ≤ tm j) : ∀ d : Nat, i + d ≤ n → 0 ≤ (stS tm core kind c k i (i + d)).n ∧ (stS tm core kind c k i (i + d)).n ≤ d ∧ ((stS tm core kind c k i (i + d)).to = -1 ∨ 0 ≤ (stS tm core kind c k i (i + d)).to)
  | 0, _ => by
    rw [Int.natCast_zero, Int.add_zero]
    unfold stS
    rw [if_pos rfl]
    exact ⟨Int.le_refl _, Int.le_refl _, .inl rfl⟩
  | d + 1, h => by
    have ih := stS_facts h0 ht d (by omega)
    rw [show i + ((d + 1 : Nat) : Int) = (i + d) + 1 by omega]
    by_cases hd : d = 0
    · subst hd
      rw [Int.natCast_zero, Int.add_zero, stS_first tm core kind c k i h0]
      exact ⟨by show (0 : Int) ≤ 1; decide, by simp, .inl rfl⟩
    · rw [stS_succ tm core kind c k i h0 (by omega)]
      have htj := ht (i + d) (by omega) (by omega)
      split
      · unfold updS
        split
        · refine ⟨by simp only; omega, by simp only; omega, ?_⟩
          simp only
          split
          · exact .inr htj
          · exact .inl rfl
        · exact ⟨ih.1, by omega, ih.2.2⟩
      · exact ⟨ih.1, by omega, ih.2.2⟩
theorem stS_own (h0 : 0 ≤ i) {m : Int} (hm : i ≤ m) (hcm : core m = c) {s : Sp} (hs : s = stS tm core kind c k i m) (hto : s.to = -1) : stS tm core kind c k i (m + 1) = ⟨s.core, s.kind, s.frm, if i < m ∧ closesK k (kind m) = true then tm m else -1, s.n + 1⟩ := by
  by_cases h : m = i
  · subst h
    rw [stS_first tm core kind c k m h0, hs]
    unfold stS
    rw [if_pos rfl, if_neg (fun h => absurd h.1 (by omega))]
    rfl
  · rw [stS_succ tm core kind c k i h0 (by omega), if_pos hcm, ← hs]
    unfold updS
    rw [if_pos hto, hs, stS_kind, ← hs]
    have : (i < m ∧ closesK k (kind m) = true) = (closesK k (kind m) = true) := propext ⟨fun h => h.2, fun g => ⟨by omega, g⟩⟩
    simp only [this]
end
end Go.Sx
