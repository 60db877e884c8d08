import Derived.Test.YtpkapjlcmoikoaaSpRa
set_option linter.all false
/-
  DeleteFunc, plain.
-/
namespace Go.Sx
open Go
set_option linter.all false
theorem RowIs.put5 {F : Nat → E → SV} {g : Nat → Int → Int} (h : RowIs F g) (i v0 v1 v2 v3 v4 : E) : RowIs (rowPut F i 0 [.int .i64 v0, .int .i8 v1, .int .i64 v2, .int .i64 v3, .int .i64 v4])
    (fun j a => if a = i.i then (match j with | 0 => v0.i | 1 => v1.i | 2 => v2.i | 3 => v3.i | _ => v4.i) else g j a) := by
  intro j e hj
  obtain ⟨x, hx, hv⟩ := h j e hj
  have key : ∀ v : E, ∃ y, iteSV (cmp' .eql e i) (.int (kdS j) v) (F j e) = .int (kdS j) y ∧ y.i = if e.i = i.i then v.i else g j e.i := by
    intro v
    rw [hx]
    obtain ⟨y, hy, hyi⟩ := iteSV_int' (cmp' .eql e i) (kdS j) v x
    refine ⟨y, hy, ?_⟩
    rw [hyi, cmp'_b]
    by_cases he : e.i = i.i
    · rw [if_pos (by simp [cmpD, he]), if_pos he]
    · rw [if_neg (by simp [cmpD, he]), if_neg he, hv]
  match j, hj with
  | 0, _ => exact key v0
  | 1, _ => exact key v1
  | 2, _ => exact key v2
  | 3, _ => exact key v3
  | 4, _ => exact key v4
theorem getD_set_sp (L : List Sp) (p x : Nat) (s : Sp) (hp : p < L.length) : (L.set p s).getD x default = if x = p then s else L.getD x default := by
  simp only [List.getD, List.getElem?_set]
  by_cases h : p = x
  · subst h
    rw [if_pos rfl, if_pos hp, if_pos rfl]
    rfl
  · rw [if_neg h, if_neg (fun e => h e.symm)]
theorem put5_le {S : Nat → Option Src} {L : List Sp} {n i v0 v1 v2 v3 v4 : E} {s : Sp} {p : Int} (hn : n.i = L.length) (hi : i.i = p) (hp : 0 ≤ p) (hp1 : p < L.length) (h0 : v0.i = s.core) (h1 : v1.i = s.kind) (h2 : v2.i = s.frm) (h3 : v3.i = s.to) (h4 : v4.i = s.n) :
    ∀ (e e' : E) (j : Nat), e.i = e'.i → 0 ≤ e.i → e.i < n.i → j < 5 → SVle S (rowPut (spF L) i 0 [.int .i64 v0, .int .i8 v1, .int .i64 v2, .int .i64 v3, .int .i64 v4] j e) (spF (L.set p.toNat s) j e') := by
  refine RowIs.le ((rowIs_spF L).put5 i v0 v1 v2 v3 v4) fun j a hj ha ha' => ?_
  show (if a = i.i then _ else fieldS j (L.getD a.toNat default)) = _
  rw [hi, getD_set_sp _ _ _ _ (by omega)]
  by_cases he : a = p
  · rw [if_pos he, if_pos (by omega)]
    match j, hj with
    | 0, _ => exact h0
    | 1, _ => exact h1
    | 2, _ => exact h2
    | 3, _ => exact h3
    | 4, _ => exact h4
  · rw [if_neg he, if_neg (by omega)]
theorem take_le {S : Nat → Option Src} {L : List Sp} {n : E} {q : Nat} (hn : n.i = q) (hq : q ≤ L.length) :
    ∀ (e e' : E) (j : Nat), e.i = e'.i → 0 ≤ e.i → e.i < n.i → j < 5 → SVle S (spF L j e) (spF (L.take q) j e') := by
  refine RowIs.le (rowIs_spF L) fun j a hj ha ha' => ?_
  show fieldS j (L.getD a.toNat default) = _
  congr 1
  have h1 : a.toNat < q := by omega
  have h2 : a.toNat < L.length := by omega
  simp only [List.getD, List.getElem?_take, if_pos h1]
structure DelAt (t : Int) (M : List Sp) (i j : Int) (L : List Sp) : Prop where
  i0 : 0 ≤ i
  ij : i ≤ j
  jn : j ≤ M.length
  ll : L.length = M.length
  tk : L.take i.toNat = (M.take j.toNat).filter (atB t)
  rest : ∀ x : Nat, j.toNat ≤ x → L.getD x default = M.getD x default
theorem filter_all {t i : Int} {M : List Sp} (hM : i ≤ M.length) (hall : ∀ x : Int, 0 ≤ x → x < i → atB t (M.getD x.toNat default) = true) : (M.take i.toNat).filter (atB t) = M.take i.toNat := by
  refine List.filter_eq_self.2 fun s hs => ?_
  obtain ⟨x, hx, rfl⟩ := List.mem_iff_getElem.1 hs
  have hx2 : x < i.toNat := by
    rw [List.length_take] at hx
    omega
  have := hall x (by omega) (by omega)
  rw [show ((x : Int)).toNat = x by omega] at this
  have hx3 : x < M.length := by omega
  rw [List.getElem_take]
  simp only [List.getD, List.getElem?_eq_getElem hx3, Option.getD_some] at this
  exact this
theorem del_start {t i : Int} {M : List Sp} (h0 : 0 ≤ i) (h1 : i < M.length) (hall : ∀ x : Int, 0 ≤ x → x < i → atB t (M.getD x.toNat default) = true) (hn : atB t (M.getD i.toNat default) = false) : DelAt t M i (i + 1) M :=
  ⟨h0, by omega, by omega, rfl, by rw [filter_succ h0 h1, if_neg (by rw [hn]; decide), List.append_nil, filter_all (by omega) hall], fun _ _ => rfl⟩
theorem del_drop {t i j : Int} {M L : List Sp} (h : DelAt t M i j L) (hj : j < M.length) (hn : atB t (M.getD j.toNat default) = false) : DelAt t M i (j + 1) L :=
  have := h.i0
  have := h.ij
  ⟨h.i0, by omega, by omega, h.ll, by rw [filter_succ (by omega) hj, if_neg (by rw [hn]; decide), List.append_nil, h.tk], fun x hx => h.rest x (by omega)⟩
theorem del_keep {t i j : Int} {M L : List Sp} (h : DelAt t M i j L) (hj : j < M.length) (hn : atB t (M.getD j.toNat default) = true) : DelAt t M (i + 1) (j + 1) (L.set i.toNat (M.getD j.toNat default)) := by
  have h0 := h.i0
  have h1 := h.ij
  have h2 := h.ll
  have hil : i.toNat < L.length := by omega
  refine ⟨by omega, by omega, by omega, by rw [List.length_set]; exact h.ll, ?_, fun x hx => ?_⟩
  · rw [filter_succ (by omega) hj, if_pos hn, ← h.tk, show (i + 1).toNat = i.toNat + 1 by omega, List.take_succ, List.getElem?_set_self hil, List.take_set_of_le (by omega)]
    rfl
  · rw [getD_set_sp _ _ _ _ hil, if_neg (by omega)]
    exact h.rest x (by omega)
theorem atB_f1 {t : Int} {s : Sp} (h : t < s.frm) : atB t s = false := by
  unfold atB
  rw [decide_eq_false (by omega), Bool.false_and]
theorem atB_f2 {t : Int} {s : Sp} (h : 0 ≤ s.to) (h2 : s.to < t) : atB t s = false := by
  unfold atB
  rw [decide_eq_false (p := s.to < 0) (by omega), decide_eq_false (p := t ≤ s.to) (by omega), Bool.or_self, Bool.and_false]
theorem atB_t1 {t : Int} {s : Sp} (h : s.frm ≤ t) (h2 : s.to < 0) : atB t s = true := by simp [atB, h, h2]
theorem atB_t2 {t : Int} {s : Sp} (h : s.frm ≤ t) (h2 : t ≤ s.to) : atB t s = true := by simp [atB, h, h2]
end Go.Sx
