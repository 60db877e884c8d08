import Derived.Test.YtpkapjlcmoikoaaSpX
set_option linter.all false
/-
  A log that is told later, plain; the longest span, plain.
-/
namespace Go.Sx
open Go
set_option linter.all false
/-- a span, so much later -/
def shiftS (d : Int) (s : Sp) : Sp := { s with frm := s.frm + d, to := if 0 ≤ s.to then s.to + d else s.to }
theorem shift_to {d : Int} {s : Sp} (hd : 0 ≤ d) : (shiftS d s).to = -1 ↔ s.to = -1 := by
  unfold shiftS
  simp only
  split <;> omega
theorem updS_shift {d kd x : Int} {s : Sp} (hd : 0 ≤ d) (hx : 0 ≤ x) : updS kd (x + d) (shiftS d s) = shiftS d (updS kd x s) := by
  by_cases h : s.to = -1
  · have h' := (shift_to hd).2 h
    unfold updS
    rw [if_pos h, if_pos h']
    unfold shiftS
    simp only [Sp.mk.injEq, true_and]
    split
    · simp [hx]
    · simp
  · have h' : ¬ (shiftS d s).to = -1 := fun e => h ((shift_to hd).1 e)
    unfold updS
    rw [if_neg h, if_neg h']
theorem open_shift {d k : Int} {l : List Sp} (hd : 0 ≤ d) : hasOpen k (l.map (shiftS d)) = hasOpen k l := by
  unfold hasOpen
  rw [List.any_map]
  congr 1
  funext s
  simp only [Function.comp]
  have : ((shiftS d s).to == -1) = (s.to == -1) := by
    rw [Bool.eq_iff_iff, beq_iff_eq, beq_iff_eq]
    exact shift_to hd
  rw [this]
  rfl
theorem newK_shift {c k kd x d : Int} {l : List Sp} (hd : 0 ≤ d) : newK c k kd (x + d) (l.map (shiftS d)) = (newK c k kd x l).map (shiftS d) := by
  unfold newK
  rw [open_shift hd]
  split
  · simp [shiftS]
  · rfl
theorem newsK_shift {c kd x d : Int} {l : List Sp} (hd : 0 ≤ d) : newsK c kd (x + d) (l.map (shiftS d)) = (newsK c kd x l).map (shiftS d) := by
  unfold newsK
  rw [newK_shift hd, newK_shift hd, newK_shift hd, List.map_append, List.map_append]
section
variable (tm tm' core kind : Int → Int) (d : Int) (hd : 0 ≤ d)
include hd
theorem spans_shift (c : Int) : ∀ n : Nat, (∀ i : Nat, i < n → 0 ≤ tm i) → (∀ i : Nat, i < n → tm' i = tm i + d) → spans tm' core kind c n = (spans tm core kind c n).map (shiftS d)
  | 0, _, _ => rfl
  | n + 1, h, h' => by
    have ih := spans_shift c n (fun i hi => h i (by omega)) (fun i hi => h' i (by omega))
    rw [spans_succ, spans_succ, ih, h' n (by omega)]
    split
    · rw [List.map_append, newsK_shift hd, List.map_map, List.map_map]
      congr 1
      refine List.map_congr_left fun s _ => ?_
      exact updS_shift hd (h n (by omega))
    · rfl
theorem allSp_shift (want : Int → Bool) : ∀ n : Nat, (∀ i : Nat, i < n → 0 ≤ tm i) → (∀ i : Nat, i < n → tm' i = tm i + d) → allSp tm' core kind want n = (allSp tm core kind want n).map (shiftS d)
  | 0, _, _ => rfl
  | n + 1, h, h' => by
    have ih := allSp_shift want n (fun i hi => h i (by omega)) (fun i hi => h' i (by omega))
    simp only [allSp]
    rw [ih, spans_shift tm tm' core kind d hd _ n (fun i hi => h i (by omega)) (fun i hi => h' i (by omega)), h' n (by omega), List.map_append, List.map_map, List.map_map]
    congr 1
    · refine List.map_congr_left fun s _ => ?_
      simp only [Function.comp]
      have e : (shiftS d s).core = s.core := rfl
      rw [e]
      split
      · exact updS_shift hd (h n (by omega))
      · rfl
    · split
      · exact newsK_shift hd
      · rfl
end
/-- the longest span of a kind, step by step -/
def longStep (kd : Int) (b : Sp × Bool) (s : Sp) : Sp × Bool := if s.kind = kd ∧ 0 ≤ s.to then (if b.2 = false ∨ b.1.to - b.1.frm < s.to - s.frm then (s, true) else b) else b
def longF (kd : Int) (M : List Sp) : Sp × Bool := M.foldl (longStep kd) (default, false)
theorem longF_succ {kd : Int} {M : List Sp} {i : Int} (h0 : 0 ≤ i) (h1 : i < M.length) : longF kd (M.take (i + 1).toNat) = longStep kd (longF kd (M.take i.toNat)) (M.getD i.toNat default) := by
  rw [take_succ_getD h0 h1]
  unfold longF
  rw [List.foldl_append]
  rfl
/-- what a fold holds -/
structure LongIs (kd : Int) (M : List Sp) (b : Sp × Bool) : Prop where
  no : b.2 = false → b.1 = default
  yes : b.2 = true → b.1 ∈ M ∧ 0 ≤ b.1.to
theorem longF_is (kd : Int) (M : List Sp) : LongIs kd M (longF kd M) := by
  suffices h : ∀ (L : List Sp) (b : Sp × Bool), LongIs kd M b → (∀ s ∈ L, s ∈ M) → LongIs kd M (L.foldl (longStep kd) b) from h M _ ⟨fun _ => rfl, fun h => by cases h⟩ fun s h => h
  intro L
  induction L with
  | nil => exact fun b h _ => h
  | cons s L ih =>
    intro b h hs
    refine ih _ ?_ fun s h => hs s (by simp [h])
    unfold longStep
    split
    · rename_i g
      split
      · exact ⟨fun h => (by cases h), fun _ => ⟨hs s (by simp), g.2⟩⟩
      · exact h
    · exact h
theorem longF_shift (kd d : Int) (hd : 0 ≤ d) (M : List Sp) : (longF kd (M.map (shiftS d))).2 = (longF kd M).2 ∧ ((longF kd M).2 = true → (longF kd (M.map (shiftS d))).1 = shiftS d (longF kd M).1) := by
  suffices h : ∀ (L : List Sp) (a b : Sp × Bool), (a.2 = b.2 ∧ (b.2 = true → a.1 = shiftS d b.1 ∧ 0 ≤ b.1.to)) → ((L.map (shiftS d)).foldl (longStep kd) a).2 = (L.foldl (longStep kd) b).2 ∧ ((L.foldl (longStep kd) b).2 = true → ((L.map (shiftS d)).foldl (longStep kd) a).1 = shiftS d (L.foldl (longStep kd) b).1 ∧ 0 ≤ (L.foldl (longStep kd) b).1.to) by
    have := h M (default, false) (default, false) ⟨rfl, fun h => by cases h⟩
    exact ⟨this.1, fun h => (this.2 h).1⟩
  intro L
  induction L with
  | nil => exact fun a b h => h
  | cons s L ih =>
    intro a b h
    refine ih _ _ ?_
    unfold longStep
    have k1 : (shiftS d s).kind = s.kind := rfl
    have k2 : 0 ≤ (shiftS d s).to ↔ 0 ≤ s.to := by
      unfold shiftS
      simp only
      split <;> omega
    rw [k1]
    by_cases g : s.kind = kd ∧ 0 ≤ s.to
    · rw [if_pos ⟨g.1, k2.2 g.2⟩, if_pos g]
      by_cases hb : b.2 = false
      · rw [if_pos (.inl (h.1.trans hb)), if_pos (.inl hb)]
        exact ⟨rfl, fun _ => ⟨rfl, g.2⟩⟩
      · have hb' : b.2 = true := by simpa using hb
        obtain ⟨e, hto⟩ := h.2 hb'
        have e1 : (shiftS d s).to - (shiftS d s).frm = s.to - s.frm := by
          unfold shiftS
          simp only
          rw [if_pos g.2]
          omega
        have e2 : a.1.to - a.1.frm = b.1.to - b.1.frm := by
          rw [e]
          unfold shiftS
          simp only
          rw [if_pos hto]
          omega
        rw [e1, e2, h.1]
        split
        · exact ⟨rfl, fun _ => ⟨rfl, g.2⟩⟩
        · exact h
    · rw [if_neg (fun q => g ⟨q.1, k2.1 q.2⟩), if_neg g]
      exact h
/-- what stands in All's answer -/
structure MemOk (s : Sp) : Prop where
  n1 : 1 ≤ s.n
  f0 : 0 ≤ s.frm
  f1 : s.frm < 9223372036854775808
  t0 : s.to = -1 ∨ 0 ≤ s.to
  t1 : s.to < 9223372036854775808
theorem mem_ok {tm core kind : Int → Int} {n : Int} (hok : ∀ i : Int, 0 ≤ i → i < n → okAt tm core kind i) (hr : ∀ i : Int, 0 ≤ i → i < n → tm i < 9223372036854775808) (cs : List Int) (hnd : cs.Nodup) (want : Int → Bool) (hw : ∀ c, want c = true ↔ c ∈ cs) : ∀ s ∈ allSp tm core kind want n.toNat, MemOk s := by
  intro s hs
  have hup := may_up hok
  have := ((allSp_perm tm core kind cs hnd want hw n.toNat).mem_iff).1 hs
  obtain ⟨c, _, hsc⟩ := List.mem_flatMap.1 this
  obtain ⟨g, _⟩ := spans_ok (tm := tm) (core := core) (kind := kind) c n.toNat (fun i h => (hok i (by omega) (by omega)).1) (fun i j h h' => hup i j (by omega) (by omega) (by omega))
  obtain ⟨_, _, g1, _, ⟨i, f1, _, f3⟩, g5⟩ := g s hsc
  have a1 := (hok i (by omega) (by omega)).1
  have a2 := hr i (by omega) (by omega)
  refine ⟨g1, by omega, by omega, ?_, ?_⟩
  · rcases g5 with h | ⟨h, _⟩
    · exact .inl h
    · exact .inr (by omega)
  · rcases g5 with h | ⟨_, j, e1, _, e3⟩
    · omega
    · have := hr j (by omega) (by omega)
      omega
end Go.Sx
