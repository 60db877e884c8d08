import Derived.Test.YtpkapjlcmoikoaaSpM
set_option linter.all false
/-
  A core's spans, plain: entry by entry.
-/
namespace Go.Sx
open Go

def opensK (k kd : Int) : Bool := decide ((k = 0 ∧ kd = 2) ∨ (k = 1 ∧ kd = 9) ∨ (k = 2 ∧ kd = 5))
def closesK (k kd : Int) : Bool := decide ((k = 0 ∧ kd = 13) ∨ (k = 1 ∧ kd = 10) ∨ (k = 2 ∧ (kd = 6 ∨ kd = 7)))
/-- an entry behind a span that is open -/
def updS (kd t : Int) (s : Sp) : Sp := if s.to = -1 then { s with n := s.n + 1, to := if closesK s.kind kd then t else -1 } else s
def updK (k kd t : Int) (s : Sp) : Sp := if s.kind = k then updS kd t s else s
def hasOpen (k : Int) (l : List Sp) : Bool := l.any fun s => s.kind == k && s.to == -1
def newK (c k kd t : Int) (l : List Sp) : List Sp := if !hasOpen k l && opensK k kd then [⟨c, k, t, -1, 1⟩] else []
def stepK (c kd t k : Int) (l : List Sp) : List Sp := l.map (updK k kd t) ++ newK c k kd t l
def takeL (c kd t : Int) (l : List Sp) : List Sp := stepK c kd t 2 (stepK c kd t 1 (stepK c kd t 0 l))
/-- the spans of a core, of the first entries -/
def spans (tm core kind : Int → Int) (c : Int) : Nat → List Sp
  | 0 => []
  | n + 1 => if core n = c then takeL c (kind n) (tm n) (spans tm core kind c n) else spans tm core kind c n

/-! ### where the open one of a kind stands -/
structure OpenAt (k : Int) (l : List Sp) (o : Int) : Prop where
  h0 : 0 ≤ o
  h1 : o ≤ l.length
  at' : ∀ p : Nat, p < l.length → ((l.getD p default).kind = k ∧ (l.getD p default).to = -1 ↔ (p : Int) + 1 = o)

theorem getD_mem {l : List Sp} {s : Sp} (h : s ∈ l) : ∃ p, p < l.length ∧ l.getD p default = s := by
  obtain ⟨p, hp, he⟩ := List.mem_iff_getElem.1 h
  exact ⟨p, hp, by simp [List.getD, hp, he]⟩
theorem OpenAt.has {k : Int} {l : List Sp} {o : Int} (h : OpenAt k l o) : hasOpen k l = decide (o ≠ 0) := by
  rw [Bool.eq_iff_iff]
  simp only [hasOpen, List.any_eq_true, Bool.and_eq_true, beq_iff_eq, decide_eq_true_eq]
  constructor
  · rintro ⟨s, hs, h1, h2⟩
    obtain ⟨p, hp, rfl⟩ := getD_mem hs
    have := (h.at' p hp).1 ⟨h1, h2⟩
    omega
  · intro h2
    have h3 := h.h0
    have h4 := h.h1
    have hp : (o - 1).toNat < l.length := by omega
    have := (h.at' _ hp).2 (by omega)
    refine ⟨l.getD (o - 1).toNat default, ?_, this⟩
    simp only [List.getD, List.getElem?_eq_getElem hp, Option.getD_some]
    exact List.getElem_mem hp
theorem OpenAt.nil (k : Int) : OpenAt k [] 0 := ⟨by simp, by simp, fun p hp => by simp at hp⟩

theorem updK_kind (k kd t : Int) (s : Sp) : (updK k kd t s).kind = s.kind := by
  unfold updK updS; split <;> (try split) <;> rfl
theorem updK_core (k kd t : Int) (s : Sp) : (updK k kd t s).core = s.core := by
  unfold updK updS; split <;> (try split) <;> rfl
theorem updK_frm (k kd t : Int) (s : Sp) : (updK k kd t s).frm = s.frm := by
  unfold updK updS; split <;> (try split) <;> rfl
theorem updK_other {k kd t : Int} {s : Sp} (h : s.kind ≠ k) : updK k kd t s = s := by
  unfold updK; rw [if_neg h]
theorem updK_shut {k kd t : Int} {s : Sp} (h : s.to ≠ -1) : updK k kd t s = s := by
  unfold updK updS
  rw [if_neg h]
  split <;> rfl
theorem map_getD (f : Sp → Sp) (l : List Sp) (p : Nat) (hp : p < l.length) : (l.map f).getD p default = f (l.getD p default) := by
  simp [List.getD, hp]

/-- no span of the kind is open: the entry leaves all -/
theorem map_closed {k kd t : Int} {l : List Sp} (h : hasOpen k l = false) : l.map (updK k kd t) = l := by
  have : ∀ s ∈ l, updK k kd t s = id s := fun s hs => by
    by_cases hk : s.kind = k
    · by_cases ht : s.to = -1
      · have : hasOpen k l = true := by
          simp only [hasOpen, List.any_eq_true, Bool.and_eq_true, beq_iff_eq]
          exact ⟨s, hs, hk, ht⟩
        rw [h] at this
        cases this
      · exact updK_shut ht
    · exact updK_other hk
  rw [List.map_congr_left this, List.map_id]
/-- of an open one just that one is changed -/
theorem map_open {k kd t : Int} {l : List Sp} {o : Int} (h : OpenAt k l o) : ∀ p : Nat, p < l.length → (l.map (updK k kd t)).getD p default = if (p : Int) + 1 = o then updS kd t (l.getD p default) else l.getD p default := by
  intro p hp
  rw [map_getD _ _ _ hp]
  split
  · rename_i he
    obtain ⟨h1, h2⟩ := (h.at' p hp).2 he
    unfold updK
    rw [if_pos h1]
  · rename_i he
    have := fun hh => he ((h.at' p hp).1 hh)
    by_cases hk : (l.getD p default).kind = k
    · exact updK_shut (fun ht => this ⟨hk, ht⟩)
    · exact updK_other hk

/-- the place behind an entry -/
def nextO (k kd : Int) (l : List Sp) (o : Int) : Int := if o = 0 then (if opensK k kd then l.length + 1 else 0) else (if closesK k kd then 0 else o)
theorem getD_snoc (l : List Sp) (s : Sp) (p : Nat) : (l ++ [s]).getD p default = if p < l.length then l.getD p default else if p = l.length then s else default := by
  simp only [List.getD, List.getElem?_append, List.getElem?_singleton]
  split
  · rfl
  · by_cases h : p = l.length
    · simp [h]
    · rw [if_neg (by omega), if_neg h]
      rfl
theorem OpenAt.step {k : Int} {l : List Sp} {o : Int} (h : OpenAt k l o) (c kd t : Int) (ht : t ≠ -1) : OpenAt k (stepK c kd t k l) (nextO k kd l o) := by
  have hh := h.has
  have h3 := h.h0
  have h4 := h.h1
  unfold stepK newK nextO
  rw [hh]
  by_cases ho : o = 0
  · have hc : hasOpen k l = false := by rw [hh]; simp [ho]
    rw [map_closed hc]
    subst ho
    simp only [ne_eq, not_true_eq_false, decide_false, Bool.not_false, Bool.true_and, if_true]
    split
    · refine ⟨by omega, by simp, fun p hp => ?_⟩
      rw [getD_snoc]
      simp only [List.length_append, List.length_cons, List.length_nil] at hp
      by_cases hpl : p < l.length
      · rw [if_pos hpl]
        have := h.at' p hpl
        constructor
        · intro hx; have := this.1 hx; omega
        · intro hx; omega
      · rw [if_neg hpl, if_pos (by omega)]
        constructor
        · intro _; omega
        · intro _; exact ⟨rfl, rfl⟩
    · rw [List.append_nil]
      exact h
  · simp only [ne_eq, ho, not_false_eq_true, decide_true, Bool.not_true, Bool.false_and, Bool.false_eq_true, if_false, List.append_nil]
    refine ⟨by split <;> omega, by rw [List.length_map]; split <;> omega, fun p hp => ?_⟩
    rw [List.length_map] at hp
    rw [map_open h p hp]
    have hat := h.at' p hp
    split
    · rename_i he
      obtain ⟨h1, h2⟩ := hat.2 he
      unfold updS
      rw [if_pos h2]
      simp only [h1]
      split
      · constructor
        · rintro ⟨_, hx⟩; exact absurd hx ht
        · intro hx; omega
      · constructor
        · intro _; exact he
        · intro _; exact ⟨trivial, rfl⟩
    · rename_i he
      split
      · constructor
        · intro hx; exact absurd (hat.1 hx) he
        · intro hx; omega
      · exact hat
/-- another kind's -/
theorem OpenAt.other {k k' : Int} {l : List Sp} {o : Int} (h : OpenAt k l o) (hne : k ≠ k') (c kd t : Int) : OpenAt k (stepK c kd t k' l) o := by
  have h3 := h.h0
  have h4 := h.h1
  have hm : ∀ p : Nat, p < l.length → ((l.map (updK k' kd t)).getD p default).kind = (l.getD p default).kind ∧ ((l.getD p default).kind = k → (l.map (updK k' kd t)).getD p default = l.getD p default) := fun p hp => by
    rw [map_getD _ _ _ hp]
    exact ⟨updK_kind _ _ _ _, fun hk => updK_other (by rw [hk]; exact hne)⟩
  have hmap : OpenAt k (l.map (updK k' kd t)) o := by
    refine ⟨h3, by rw [List.length_map]; exact h4, fun p hp => ?_⟩
    rw [List.length_map] at hp
    obtain ⟨e1, e2⟩ := hm p hp
    rw [e1, ← h.at' p hp]
    constructor
    · rintro ⟨a, b⟩; rw [e2 a] at b; exact ⟨a, b⟩
    · rintro ⟨a, b⟩; rw [e2 a]; exact ⟨a, b⟩
  unfold stepK newK
  split
  · refine ⟨h3, by simp; omega, fun p hp => ?_⟩
    rw [getD_snoc]
    simp only [List.length_append, List.length_cons, List.length_nil, List.length_map] at hp ⊢
    split
    · rename_i hlt
      exact hmap.at' p (by rw [List.length_map]; exact hlt)
    · rw [if_pos (by omega)]
      constructor
      · rintro ⟨a, _⟩; exact absurd a.symm hne
      · intro hx; omega
  · rw [List.append_nil]
    exact hmap

/-! ### rows of spans -/
def fieldS : Nat → Sp → Int
  | 0 => Sp.core
  | 1 => Sp.kind
  | 2 => Sp.frm
  | 3 => Sp.to
  | _ => Sp.n
def kdS : Nat → IntKind
  | 1 => .i8
  | _ => .i64
/-- a row's cells are these numbers -/
def RowIs (F : Nat → E → SV) (g : Nat → Int → Int) : Prop := ∀ (j : Nat) (e : E), j < 5 → ∃ x, F j e = .int (kdS j) x ∧ x.i = g j e.i
theorem rowIs_spF (L : List Sp) : RowIs (spF L) fun j a => fieldS j (L.getD a.toNat default)
  | 0, e, _ => ⟨_, rfl, rfl⟩
  | 1, e, _ => ⟨_, rfl, rfl⟩
  | 2, e, _ => ⟨_, rfl, rfl⟩
  | 3, e, _ => ⟨_, rfl, rfl⟩
  | 4, e, _ => ⟨_, rfl, rfl⟩
  | j + 5, _, h => by omega
theorem iteSV_int' (c : E) (k : IntKind) (a b : E) : ∃ y, iteSV c (.int k a) (.int k b) = .int k y ∧ y.i = if c.b = true then a.i else b.i := by
  unfold iteSV
  split
  · exact ⟨a, rfl, rfl⟩
  · exact ⟨b, rfl, rfl⟩
  · simp only [decide_true]
    exact ⟨_, rfl, ite'_i _ _ _⟩
theorem RowIs.put {F : Nat → E → SV} {g : Nat → Int → Int} (h : RowIs F g) (q : Nat) (i v : E) : RowIs (rowPut F i q [.int (kdS q) v]) fun j a => if j = q ∧ a = i.i then v.i else g j a := by
  intro j e hj
  obtain ⟨x, hx, hv⟩ := h j e hj
  by_cases hjq : j = q
  · subst hjq
    have : rowPut F i j [.int (kdS j) v] j e = iteSV (cmp' .eql e i) (.int (kdS j) v) (F j e) := by
      unfold rowPut
      have h1 : Nat.ble j j = true := Nat.ble_eq_true_of_le (Nat.le_refl _)
      have h2 : Nat.blt j (j + [SV.int (kdS j) v].length) = true := Nat.ble_eq_true_of_le (Nat.le_refl (j + 1))
      simp only [h1, h2, Nat.sub_self]
      rfl
    rw [this, hx]
    obtain ⟨y, hy, hyi⟩ := iteSV_int' (cmp' .eql e i) (kdS j) v x
    refine ⟨y, hy, ?_⟩
    rw [hyi, cmp'_b]
    show _ = (if j = j ∧ e.i = i.i then v.i else g j e.i)
    by_cases he : e.i = i.i
    · rw [if_pos (by simp [cmpD, he]), if_pos ⟨rfl, he⟩]
    · rw [if_neg (by simp [cmpD, he]), if_neg (fun hh => he hh.2), hv]
  · have : rowPut F i q [.int (kdS q) v] j e = F j e := by
      unfold rowPut
      split
      · rename_i h1 h2
        have h1 := Nat.le_of_ble_eq_true h1
        have h2 : j + 1 ≤ q + 1 := Nat.le_of_ble_eq_true h2
        omega
      · rfl
    rw [this]
    exact ⟨x, hx, by show _ = (if j = q ∧ e.i = i.i then v.i else g j e.i); rw [if_neg (fun hh => hjq hh.1)]; exact hv⟩
theorem RowIs.snoc {F : Nat → E → SV} {g : Nat → Int → Int} (h : RowIs F g) (n v0 v1 v2 v3 v4 : E) : RowIs (fun j i => iteSV (cmp' .lss i n) (F j i) (getT [.int .i64 v0, .int .i8 v1, .int .i64 v2, .int .i64 v3, .int .i64 v4] j))
    (fun j a => if a < n.i then g j a else (match j with | 0 => v0.i | 1 => v1.i | 2 => v2.i | 3 => v3.i | _ => v4.i)) := by
  intro j e hj
  obtain ⟨x, hx, hv⟩ := h j e hj
  have key : ∀ v : E, getT [.int .i64 v0, .int .i8 v1, .int .i64 v2, .int .i64 v3, .int .i64 v4] j = .int (kdS j) v → ∃ y, iteSV (cmp' .lss e n) (F j e) (getT [.int .i64 v0, .int .i8 v1, .int .i64 v2, .int .i64 v3, .int .i64 v4] j) = .int (kdS j) y ∧ y.i = if e.i < n.i then g j e.i else v.i := by
    intro v hg
    rw [hg, hx]
    obtain ⟨y, hy, hyi⟩ := iteSV_int' (cmp' .lss e n) (kdS j) x v
    refine ⟨y, hy, ?_⟩
    rw [hyi, cmp'_b]
    by_cases he : e.i < n.i
    · rw [if_pos (by simp [cmpD, he]), if_pos he, hv]
    · rw [if_neg (by simp [cmpD, he]), if_neg he]
  match j, hj with
  | 0, _ => exact key v0 rfl
  | 1, _ => exact key v1 rfl
  | 2, _ => exact key v2 rfl
  | 3, _ => exact key v3 rfl
  | 4, _ => exact key v4 rfl
theorem RowIs.le {S : Nat → Option Src} {F : Nat → E → SV} {g : Nat → Int → Int} (h : RowIs F g) {n : Int} {L : List Sp} (hg : ∀ (j : Nat) (a : Int), j < 5 → 0 ≤ a → a < n → g j a = fieldS j (L.getD a.toNat default)) :
    ∀ (e e' : E) (j : Nat), e.i = e'.i → 0 ≤ e.i → e.i < n → j < 5 → SVle S (F j e) (spF L j e') := by
  intro e e' j he h0 h1 hj
  obtain ⟨x, hx, hv⟩ := h j e hj
  obtain ⟨y, hy, hw⟩ := rowIs_spF L j e' hj
  rw [hx, hy]
  refine ⟨rfl, ⟨?_⟩⟩
  rw [hv, hw, hg j e.i hj h0 h1, he]
end Go.Sx
