import Derived.Test.YtpkapjlcmoikoaaSpQ
import Derived.Test.YtpkapjlcmoikoaaSpE
set_option linter.all false
/-
  A log that is cut, plain.
-/
namespace Go.Sx
open Go
set_option linter.all false
/-- a span of the log that is cut, and the log's own -/
structure CutPair (t : Int) (b a : Sp) : Prop where
  core' : a.core = b.core
  frm : a.frm = b.frm
  kind' : a.kind = b.kind
  early : b.frm < t
  whole : b.to ≠ -1 → a = b ∧ 0 ≤ b.to ∧ b.to < t
  half : b.to = -1 → (a.to = -1 ∨ t ≤ a.to) ∧ b.n ≤ a.n
structure CutRel (t : Int) (B A : List Sp) : Prop where
  len : B.length ≤ A.length
  pair : ∀ p, p < B.length → CutPair t (B.getD p default) (A.getD p default)
  late : ∀ p, B.length ≤ p → p < A.length → t ≤ (A.getD p default).frm
theorem cutPair_upd {t kd x : Int} {b a : Sp} (h : CutPair t b a) (hx : t ≤ x) : CutPair t b (updS kd x a) := by
  refine ⟨by rw [updS_core]; exact h.core', by rw [updS_frm]; exact h.frm, by rw [updS_kind]; exact h.kind', h.early, fun hb => ?_, fun hb => ?_⟩
  · obtain ⟨e, h1, h2⟩ := h.whole hb
    have : updS kd x a = a := by unfold updS; rw [if_neg (by rw [e]; exact hb)]
    rw [this]
    exact ⟨e, h1, h2⟩
  · obtain ⟨h1, h2⟩ := h.half hb
    unfold updS
    split
    · simp only
      refine ⟨?_, by omega⟩
      split
      · exact .inr hx
      · exact .inl rfl
    · exact ⟨h1, h2⟩
theorem getD_append (a b : List Sp) (p : Nat) : (a ++ b).getD p default = if p < a.length then a.getD p default else b.getD (p - a.length) default := by
  simp only [List.getD, List.getElem?_append]
  split <;> rfl
section
variable {tm core kind : Int → Int} (c t : Int)
theorem cut_step {B A : List Sp} (h : CutRel t B A) (m : Nat) (hm : t ≤ tm m) : CutRel t B (if core m = c then A.map (updS (kind m) (tm m)) ++ newsK c (kind m) (tm m) A else A) := by
  split
  · refine ⟨by rw [List.length_append, List.length_map]; have := h.len; omega, fun p hp => ?_, fun p hp1 hp2 => ?_⟩
    · rw [getD_append, List.length_map, if_pos (by have := h.len; omega), map_getD _ _ _ (by have := h.len; omega)]
      exact cutPair_upd (h.pair p hp) hm
    · rw [getD_append, List.length_map]
      by_cases hlt : p < A.length
      · rw [if_pos hlt, map_getD _ _ _ hlt, updS_frm]
        exact h.late p hp1 hlt
      · rw [if_neg hlt]
        rw [List.length_append, List.length_map] at hp2
        have hq : p - A.length < (newsK c (kind m) (tm m) A).length := by omega
        have hmem : (newsK c (kind m) (tm m) A).getD (p - A.length) default ∈ newsK c (kind m) (tm m) A := by
          rw [getD_get _ _ hq]
          exact List.getElem_mem hq
        rw [(newsK_mem hmem).2.2.1]
        exact hm
  · exact h
theorem cut_rel {n k : Nat} (hk : k ≤ n) (h0 : ∀ i : Nat, i < n → 0 ≤ tm i) (hup : ∀ i j : Nat, i < j → j < n → tm i < tm j) (hlo : ∀ i : Nat, i < k → tm i < t) (hhi : ∀ i : Nat, k ≤ i → i < n → t ≤ tm i) : CutRel t (spans tm core kind c k) (spans tm core kind c n) := by
  obtain ⟨d, rfl⟩ : ∃ d, n = k + d := ⟨n - k, by omega⟩
  induction d with
  | zero =>
    obtain ⟨g, _⟩ := spans_ok (tm := tm) (core := core) (kind := kind) c k (fun i h => h0 i (by omega)) (fun i j h h' => hup i j h (by omega))
    refine ⟨Nat.le_refl _, fun p hp => ?_, fun p h1 h2 => by simp only [Nat.add_zero] at h2; omega⟩
    simp only [Nat.add_zero]
    have hmem : (spans tm core kind c k).getD p default ∈ spans tm core kind c k := by
      rw [getD_get _ _ hp]
      exact List.getElem_mem hp
    generalize (spans tm core kind c k).getD p default = s at hmem
    obtain ⟨_, _, _, _, ⟨i, f1, f2, f3⟩, f4⟩ := g s hmem
    refine ⟨rfl, rfl, rfl, by rw [← f3]; exact hlo i f1, fun hb => ?_, fun hb => ⟨.inl hb, Int.le_refl _⟩⟩
    obtain ⟨g1, j, g2, g3, g4⟩ := f4.resolve_left hb
    exact ⟨rfl, by rw [← g4]; exact h0 j (by omega), by rw [← g4]; exact hlo j g2⟩
  | succ d ih =>
    have := ih (by omega) (fun i h => h0 i (by omega)) (fun i j h h' => hup i j h (by omega)) (fun i h h' => hhi i h (by omega))
    rw [show k + (d + 1) = (k + d) + 1 by omega, spans_succ]
    exact cut_step c t this (k + d) (hhi _ (by omega) (by omega))
end
/-- what the law of the cut asks of a place -/
structure CutPlace (t : Int) (nb : Int) (B A : List Sp) (i : Int) : Prop where
  late : nb ≤ i → t ≤ (A.getD i.toNat default).frm
  early : i < nb → (A.getD i.toNat default).frm < t ∧ (B.getD i.toNat default).frm = (A.getD i.toNat default).frm ∧ (B.getD i.toNat default).kind = (A.getD i.toNat default).kind
  whole : i < nb → 0 ≤ (A.getD i.toNat default).to → (A.getD i.toNat default).to < t → B.getD i.toNat default = A.getD i.toNat default
  half : i < nb → ¬ (0 ≤ (A.getD i.toNat default).to ∧ (A.getD i.toNat default).to < t) → (B.getD i.toNat default).to = -1 ∧ (B.getD i.toNat default).n ≤ (A.getD i.toNat default).n
theorem cut_place {tm core kind : Int → Int} {c t n k na nb : Int} {A B : List Sp} (hok : ∀ i : Int, 0 ≤ i → i < n → okAt tm core kind i) (hk : CutAt n tm t k) (hA : A = spans tm core kind c n.toNat) (hB : B = spans tm core kind c k.toNat) (ha : na = A.length) (hb : nb = B.length) :
    nb ≤ na ∧ ∀ i : Int, 0 ≤ i → i < na → CutPlace t nb B A i := by
  have hup := may_up hok
  obtain ⟨k0, k1, k2, k3⟩ := hk
  have hhi : ∀ i : Nat, k.toNat ≤ i → i < n.toNat → t ≤ tm i := fun i h1 h2 => by
    have h3 := k3 (by omega)
    rcases Int.lt_or_eq_of_le (show k ≤ (i : Int) by omega) with h4 | h4
    · have := hup k i k0 h4 (by omega)
      omega
    · rw [← h4]; exact h3
  have R := cut_rel (tm := tm) (core := core) (kind := kind) c t (n := n.toNat) (k := k.toNat) (by omega) (fun i h => (hok i (by omega) (by omega)).1) (fun i j h h' => hup i j (by omega) (by omega) (by omega)) (fun i h => k2 i (by omega) (by omega)) hhi
  rw [← hA, ← hB] at R
  refine ⟨by have := R.len; omega, fun i h0 h1 => ?_⟩
  have pr : i < nb → CutPair t (B.getD i.toNat default) (A.getD i.toNat default) := fun h => R.pair _ (by omega)
  refine ⟨fun h => R.late _ (by omega) (by omega), fun h => ?_, fun h g1 g2 => ?_, fun h g => ?_⟩
  · have P := pr h
    exact ⟨by rw [P.frm]; exact P.early, P.frm.symm, P.kind'.symm⟩
  · have P := pr h
    by_cases hb : (B.getD i.toNat default).to = -1
    · have := (P.half hb).1
      omega
    · exact (P.whole hb).1.symm
  · have P := pr h
    by_cases hb : (B.getD i.toNat default).to = -1
    · exact ⟨hb, (P.half hb).2⟩
    · obtain ⟨e, g1, g2⟩ := P.whole hb
      rw [e] at g
      exact absurd ⟨g1, g2⟩ g
end Go.Sx
