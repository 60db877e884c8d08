import Derived.Test.YtpkapjlcmoikoaaSpU
set_option linter.all false
/-
  The reference's spans, plain: by the place where each opens.
-/
namespace Go.Sx
open Go
set_option linter.all false
section
variable (tm core kind : Int → Int)
/-- a span that opens at an entry, so many entries later -/
def refS (c k : Int) (i : Nat) : Nat → Sp
  | 0 => ⟨c, k, tm i, -1, 1⟩
  | d + 1 => if core ((i + 1 + d : Nat) : Int) = c then updS (kind ((i + 1 + d : Nat) : Int)) (tm ((i + 1 + d : Nat) : Int)) (refS c k i d) else refS c k i d
/-- does a span of a kind open there? -/
def opensAt (c k : Int) (i : Nat) : Bool := decide (core i = c) && (!hasOpen k (spans tm core kind c i) && opensK k (kind i))
def refAt (c : Int) (n i : Nat) (k : Int) : List Sp := if opensAt tm core kind c k i = true then [refS tm core kind c k i (n - 1 - i)] else []
def refL (c : Int) (n i : Nat) : List Sp := refAt tm core kind c n i 0 ++ (refAt tm core kind c n i 1 ++ refAt tm core kind c n i 2)
theorem refAt_succ (c : Int) (n i : Nat) (k : Int) (h : i < n) : refAt tm core kind c (n + 1) i k = if core n = c then (refAt tm core kind c n i k).map (updS (kind n) (tm n)) else refAt tm core kind c n i k := by
  unfold refAt
  have e : n + 1 - 1 - i = (n - 1 - i) + 1 := by omega
  have e2 : i + 1 + (n - 1 - i) = n := by omega
  rw [e]
  simp only [refS, e2]
  by_cases hc : core n = c
  · rw [if_pos hc, if_pos hc]
    split <;> simp
  · rw [if_neg hc, if_neg hc]
theorem refL_succ (c : Int) (n i : Nat) (h : i < n) : refL tm core kind c (n + 1) i = if core n = c then (refL tm core kind c n i).map (updS (kind n) (tm n)) else refL tm core kind c n i := by
  unfold refL
  rw [refAt_succ tm core kind c n i 0 h, refAt_succ tm core kind c n i 1 h, refAt_succ tm core kind c n i 2 h]
  split
  · simp only [List.map_append]
  · rfl
theorem refL_new (c : Int) (n : Nat) : refL tm core kind c (n + 1) n = if core n = c then newsK c (kind n) (tm n) (spans tm core kind c n) else [] := by
  unfold refL refAt
  have e : n + 1 - 1 - n = 0 := by omega
  rw [e]
  simp only [refS, opensAt]
  by_cases hc : core n = c
  · rw [if_pos hc]
    simp only [hc, decide_true, Bool.true_and]
    unfold newsK newK
    rw [List.append_assoc]
  · rw [if_neg hc]
    simp [hc]
/-- the spans of a core, by the place where each opens -/
theorem spans_ref (c : Int) : ∀ n : Nat, spans tm core kind c n = (List.range n).flatMap (refL tm core kind c n)
  | 0 => by simp [spans]
  | n + 1 => by
    have ih := spans_ref c n
    rw [spans_succ, List.range_succ, List.flatMap_append, List.flatMap_cons, List.flatMap_nil, List.append_nil, refL_new]
    have e : (List.range n).flatMap (refL tm core kind c (n + 1)) = (List.range n).flatMap fun i => if core n = c then (refL tm core kind c n i).map (updS (kind n) (tm n)) else refL tm core kind c n i := by
      rw [List.flatMap_def, List.flatMap_def]
      congr 1
      refine List.map_congr_left fun i hi => ?_
      exact refL_succ tm core kind c n i (List.mem_range.1 hi)
    rw [e]
    by_cases hc : core n = c
    · rw [if_pos hc, if_pos hc]
      congr 1
      · rw [ih]
        simp only [if_pos hc]
        rw [List.map_flatMap]
    · rw [if_neg hc, if_neg hc, List.append_nil]
      rw [ih]
      simp only [if_neg hc]
theorem refS_core (c k : Int) (i : Nat) : ∀ d, (refS tm core kind c k i d).core = c
  | 0 => rfl
  | d + 1 => by
    have ih := refS_core c k i d
    simp only [refS]
    split
    · rw [updS_core]; exact ih
    · exact ih
theorem refAt_core (c : Int) (n i : Nat) (k : Int) : ∀ s ∈ refAt tm core kind c n i k, s.core = c := by
  intro s hs
  unfold refAt at hs
  split at hs
  · rw [List.mem_singleton] at hs
    subst hs
    exact refS_core tm core kind c k i _
  · cases hs
theorem refL_core (c : Int) (n i : Nat) : ∀ s ∈ refL tm core kind c n i, s.core = c := by
  intro s hs
  unfold refL at hs
  rcases List.mem_append.1 hs with h | h
  · exact refAt_core tm core kind c n i 0 s h
  · rcases List.mem_append.1 h with h | h
    · exact refAt_core tm core kind c n i 1 s h
    · exact refAt_core tm core kind c n i 2 s h
/-- the same of several cores -/
def refA (want : Int → Bool) (n i : Nat) : List Sp := if want (core i) = true then refL tm core kind (core i) n i else []
theorem allSp_ref (want : Int → Bool) : ∀ n : Nat, allSp tm core kind want n = (List.range n).flatMap (refA tm core kind want n)
  | 0 => by simp [allSp]
  | n + 1 => by
    have ih := allSp_ref want n
    simp only [allSp]
    rw [List.range_succ, List.flatMap_append, List.flatMap_cons, List.flatMap_nil, List.append_nil]
    congr 1
    · rw [ih, List.map_flatMap, List.flatMap_def, List.flatMap_def]
      congr 1
      refine List.map_congr_left fun i hi => ?_
      unfold refA
      split
      · rw [refL_succ tm core kind (core i) n i (List.mem_range.1 hi)]
        split
        · rename_i hc
          refine List.map_congr_left fun s hs => ?_
          rw [if_pos (by rw [refL_core tm core kind _ n i s hs, hc])]
        · rename_i hc
          refine (List.map_congr_left (g := id) fun s hs => ?_).trans (List.map_id _)
          rw [if_neg (by rw [refL_core tm core kind _ n i s hs]; exact fun h => hc h.symm)]
          rfl
      · rfl
    · unfold refA
      rw [refL_new, if_pos rfl]
/-- is one open, step by step -/
theorem open_map {k kd t : Int} (ht : t ≠ -1) (l : List Sp) : hasOpen k (l.map (updS kd t)) = (hasOpen k l && !closesK k kd) := by
  induction l with
  | nil => rfl
  | cons s l ih =>
    unfold hasOpen at ih ⊢
    simp only [List.map_cons, List.any_cons, ih, updS_kind]
    by_cases hk : s.kind = k
    · by_cases ho : s.to = -1
      · have : (updS kd t s).to = if closesK s.kind kd = true then t else -1 := by unfold updS; rw [if_pos ho]
        rw [this, hk]
        cases hc : closesK k kd
        · rw [if_neg (by simp)]
          simp [ho, hk]
        · rw [if_pos rfl]
          simp [ht]
      · have : (updS kd t s).to = s.to := by unfold updS; rw [if_neg ho]
        rw [this]
        rw [show (s.to == -1) = false from beq_false_of_ne ho]; simp only [Bool.and_false, Bool.false_or]
    · rw [show (s.kind == k) = false from beq_false_of_ne hk]; simp only [Bool.false_and, Bool.false_or]
theorem open_newK {c k kd t : Int} (l : List Sp) : hasOpen k (newK c k kd t l) = (!hasOpen k l && opensK k kd) := by
  unfold newK
  cases h : (!hasOpen k l && opensK k kd) <;> simp [hasOpen]
theorem open_news {c k kd t : Int} (hk : k = 0 ∨ k = 1 ∨ k = 2) (l : List Sp) : hasOpen k (newsK c kd t l) = (!hasOpen k l && opensK k kd) := by
  unfold newsK
  rw [hasOpen_append, hasOpen_append]
  rcases hk with rfl | rfl | rfl
  · rw [open_newK, hasOpen_new (by decide), hasOpen_new (by decide), Bool.or_false, Bool.or_false]
  · rw [open_newK, hasOpen_new (by decide), hasOpen_new (by decide), Bool.or_false, Bool.false_or]
  · rw [open_newK, hasOpen_new (by decide), hasOpen_new (by decide), Bool.false_or, Bool.false_or]
theorem open_succ (c : Int) {k : Int} (hk : k = 0 ∨ k = 1 ∨ k = 2) (n : Nat) (ht : 0 ≤ tm n) : hasOpen k (spans tm core kind c (n + 1)) = if core n = c then (if hasOpen k (spans tm core kind c n) = true then !closesK k (kind n) else opensK k (kind n)) else hasOpen k (spans tm core kind c n) := by
  rw [spans_succ]
  split
  · rw [hasOpen_append, open_map (by omega), open_news hk]
    cases hasOpen k (spans tm core kind c n) <;> simp
  · rfl
end
end Go.Sx
