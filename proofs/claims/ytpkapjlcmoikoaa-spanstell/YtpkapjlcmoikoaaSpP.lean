import Derived.Test.YtpkapjlcmoikoaaSpO
import Derived.Test.YtpkapjlcmoikoaaSpC
import Derived.Lib.RowBridge
set_option linter.all false
/-
  The spans of some cores, plain: one list, by their beginnings.
-/
namespace Go.Sx
open Go
set_option linter.all false

/-! ### one entry, all kinds at once -/
def newsK (c kd t : Int) (l : List Sp) : List Sp := newK c 0 kd t l ++ newK c 1 kd t l ++ newK c 2 kd t l
def Kinds3 (l : List Sp) : Prop := ∀ s ∈ l, s.kind = 0 ∨ s.kind = 1 ∨ s.kind = 2
theorem newK_mem {c k kd t : Int} {l : List Sp} {s : Sp} (h : s ∈ newK c k kd t l) : s = ⟨c, k, t, -1, 1⟩ ∧ hasOpen k l = false ∧ opensK k kd = true := by
  unfold newK at h
  split at h
  · rename_i hc
    simp only [Bool.and_eq_true, Bool.not_eq_true'] at hc
    exact ⟨by simpa using h, hc.1, hc.2⟩
  · simp at h
theorem hasOpen_append (k : Int) (a b : List Sp) : hasOpen k (a ++ b) = (hasOpen k a || hasOpen k b) := by simp [hasOpen]
theorem hasOpen_map {k k' kd t : Int} (hne : k ≠ k') (l : List Sp) : hasOpen k (l.map (updK k' kd t)) = hasOpen k l := by
  unfold hasOpen
  rw [List.any_map]
  congr 1
  funext s
  simp only [Function.comp]
  rw [updK_kind]
  by_cases h : s.kind = k
  · rw [updK_other (by rw [h]; exact hne)]
  · have : (s.kind == k) = false := by simpa using h
    rw [this, Bool.false_and, Bool.false_and]
theorem hasOpen_new {k k' c kd t : Int} (hne : k ≠ k') (l : List Sp) : hasOpen k (newK c k' kd t l) = false := by
  cases hh : hasOpen k (newK c k' kd t l) with
  | false => rfl
  | true =>
    simp only [hasOpen, List.any_eq_true, Bool.and_eq_true, beq_iff_eq] at hh
    obtain ⟨s, hs, h1, h2⟩ := hh
    obtain ⟨rfl, _⟩ := newK_mem hs
    exact absurd h1.symm hne
theorem hasOpen_step {k k' c kd t : Int} (hne : k ≠ k') (l : List Sp) : hasOpen k (stepK c kd t k' l) = hasOpen k l := by
  unfold stepK
  rw [hasOpen_append, hasOpen_map hne, hasOpen_new hne, Bool.or_false]
theorem newK_of {c k kd t : Int} {l l' : List Sp} (h : hasOpen k l = hasOpen k l') : newK c k kd t l = newK c k kd t l' := by
  unfold newK; rw [h]
theorem map_new {c k k' kd t kd' t' : Int} (hne : k' ≠ k) (l : List Sp) : (newK c k' kd t l).map (updK k kd' t') = newK c k' kd t l := by
  have : ∀ s ∈ newK c k' kd t l, updK k kd' t' s = id s := fun s hs => by
    obtain ⟨rfl, _⟩ := newK_mem hs
    exact updK_other hne
  rw [List.map_congr_left this, List.map_id]
theorem upd3 {kd t : Int} {s : Sp} (h : s.kind = 0 ∨ s.kind = 1 ∨ s.kind = 2) : updK 2 kd t (updK 1 kd t (updK 0 kd t s)) = updS kd t s := by
  rcases h with h | h | h
  · have h0 : updK 0 kd t s = updS kd t s := by unfold updK; rw [if_pos h]
    have hk : (updS kd t s).kind = 0 := by rw [← h0, updK_kind, h]
    rw [h0, updK_other (k := 1) (by rw [hk]; decide), updK_other (k := 2) (by rw [hk]; decide)]
  · rw [updK_other (k := 0) (by rw [h]; decide)]
    have h0 : updK 1 kd t s = updS kd t s := by unfold updK; rw [if_pos h]
    have hk : (updS kd t s).kind = 1 := by rw [← h0, updK_kind, h]
    rw [h0, updK_other (by rw [hk]; decide)]
  · rw [updK_other (k := 0) (by rw [h]; decide), updK_other (k := 1) (by rw [h]; decide)]
    unfold updK
    rw [if_pos h]
theorem takeL_eq {c kd t : Int} {l : List Sp} (h : Kinds3 l) : takeL c kd t l = l.map (updS kd t) ++ newsK c kd t l := by
  have e1 : newK c 1 kd t (stepK c kd t 0 l) = newK c 1 kd t l := newK_of (hasOpen_step (by decide) l)
  have e2 : newK c 2 kd t (stepK c kd t 1 (stepK c kd t 0 l)) = newK c 2 kd t l := newK_of (by rw [hasOpen_step (by decide), hasOpen_step (by decide)])
  have sd : ∀ k l, stepK c kd t k l = l.map (updK k kd t) ++ newK c k kd t l := fun _ _ => rfl
  unfold takeL
  rw [sd 2, e2, sd 1, e1, sd 0]
  simp only [List.map_append]
  rw [map_new (k' := 0) (k := 1) (by decide), map_new (k' := 0) (k := 2) (by decide), map_new (k' := 1) (k := 2) (by decide)]
  simp only [List.map_map]
  unfold newsK
  simp only [List.append_assoc]
  congr 1
  refine List.map_congr_left fun s hs => ?_
  exact upd3 (h s hs)
theorem updS_kind (kd t : Int) (s : Sp) : (updS kd t s).kind = s.kind := by unfold updS; split <;> rfl
theorem updS_core (kd t : Int) (s : Sp) : (updS kd t s).core = s.core := by unfold updS; split <;> rfl
theorem updS_frm (kd t : Int) (s : Sp) : (updS kd t s).frm = s.frm := by unfold updS; split <;> rfl
theorem newsK_mem {c kd t : Int} {l : List Sp} {s : Sp} (h : s ∈ newsK c kd t l) : s.core = c ∧ (s.kind = 0 ∨ s.kind = 1 ∨ s.kind = 2) ∧ s.frm = t ∧ s.to = -1 ∧ s.n = 1 ∧ hasOpen s.kind l = false ∧ opensK s.kind kd = true := by
  unfold newsK at h
  simp only [List.mem_append] at h
  rcases h with (h | h) | h <;> obtain ⟨rfl, h1, h2⟩ := newK_mem h
  · exact ⟨rfl, .inl rfl, rfl, rfl, rfl, h1, h2⟩
  · exact ⟨rfl, .inr (.inl rfl), rfl, rfl, rfl, h1, h2⟩
  · exact ⟨rfl, .inr (.inr rfl), rfl, rfl, rfl, h1, h2⟩
/-- an entry opens one span at the most -/
theorem newsK_one (c kd t : Int) (l : List Sp) : newsK c kd t l = [] ∨ ∃ s, newsK c kd t l = [s] := by
  unfold newsK newK
  by_cases h2 : kd = 2
  · subst h2
    have e1 : opensK 1 2 = false := by decide
    have e2 : opensK 2 2 = false := by decide
    rw [e1, e2]
    simp only [Bool.and_false, Bool.false_eq_true, if_false, List.append_nil]
    split
    · exact .inr ⟨_, rfl⟩
    · exact .inl rfl
  · have e0 : opensK 0 kd = false := by simp [opensK, h2]
    rw [e0]
    by_cases h9 : kd = 9
    · subst h9
      have e2 : opensK 2 9 = false := by decide
      rw [e2]
      simp only [Bool.and_false, Bool.false_eq_true, if_false, List.append_nil, List.nil_append]
      split
      · exact .inr ⟨_, rfl⟩
      · exact .inl rfl
    · have e1 : opensK 1 kd = false := by simp [opensK, h9]
      rw [e1]
      simp only [Bool.and_false, Bool.false_eq_true, if_false, List.append_nil, List.nil_append]
      split
      · exact .inr ⟨_, rfl⟩
      · exact .inl rfl

section
variable (tm core kind : Int → Int)
theorem spans_kinds (c : Int) : ∀ n, Kinds3 (spans tm core kind c n)
  | 0 => fun s hs => by simp [spans] at hs
  | n + 1 => by
    have ih := spans_kinds c n
    simp only [spans]
    split
    · rw [takeL_eq ih]
      intro s hs
      rcases List.mem_append.1 hs with hs | hs
      · obtain ⟨s', hs', rfl⟩ := List.mem_map.1 hs
        rw [updS_kind]
        exact ih s' hs'
      · exact (newsK_mem hs).2.1
    · exact ih
theorem spans_succ (c : Int) (n : Nat) : spans tm core kind c (n + 1) = if core n = c then (spans tm core kind c n).map (updS (kind n) (tm n)) ++ newsK c (kind n) (tm n) (spans tm core kind c n) else spans tm core kind c n := by
  simp only [spans]
  split
  · exact takeL_eq (spans_kinds tm core kind c n)
  · rfl
theorem spans_core (c : Int) : ∀ n, ∀ s ∈ spans tm core kind c n, s.core = c
  | 0 => fun s hs => by simp [spans] at hs
  | n + 1 => by
    have ih := spans_core c n
    rw [spans_succ]
    split
    · intro s hs
      rcases List.mem_append.1 hs with hs | hs
      · obtain ⟨s', hs', rfl⟩ := List.mem_map.1 hs
        rw [updS_core]
        exact ih s' hs'
      · exact (newsK_mem hs).1
    · exact ih
theorem spans_frm (c : Int) : ∀ n, ∀ s ∈ spans tm core kind c n, ∃ i : Nat, i < n ∧ s.frm = tm i
  | 0 => fun s hs => by simp [spans] at hs
  | n + 1 => by
    have ih := spans_frm c n
    rw [spans_succ]
    split
    · intro s hs
      rcases List.mem_append.1 hs with hs | hs
      · obtain ⟨s', hs', rfl⟩ := List.mem_map.1 hs
        rw [updS_frm]
        obtain ⟨i, h1, h2⟩ := ih s' hs'
        exact ⟨i, by omega, h2⟩
      · exact ⟨n, by omega, (newsK_mem hs).2.2.1⟩
    · intro s hs
      obtain ⟨i, h1, h2⟩ := ih s hs
      exact ⟨i, by omega, h2⟩

/-- the spans of the cores that are wanted, of the first entries -/
def allSp (want : Int → Bool) : Nat → List Sp
  | 0 => []
  | n + 1 => (allSp want n).map (fun s => if s.core = core n then updS (kind n) (tm n) s else s) ++ (if want (core n) = true then newsK (core n) (kind n) (tm n) (spans tm core kind (core n) n) else [])
theorem allSp_frm (want : Int → Bool) : ∀ n, ∀ s ∈ allSp tm core kind want n, ∃ i : Nat, i < n ∧ s.frm = tm i
  | 0 => fun s hs => by simp [allSp] at hs
  | n + 1 => by
    have ih := allSp_frm want n
    simp only [allSp]
    intro s hs
    rcases List.mem_append.1 hs with hs | hs
    · obtain ⟨s', hs', rfl⟩ := List.mem_map.1 hs
      obtain ⟨i, h1, h2⟩ := ih s' hs'
      refine ⟨i, by omega, ?_⟩
      split
      · rw [updS_frm]; exact h2
      · exact h2
    · split at hs
      · exact ⟨n, by omega, (newsK_mem hs).2.2.1⟩
      · simp at hs
/-- they stand by their beginnings -/
theorem allSp_sorted (want : Int → Bool) : ∀ n : Nat, (∀ i j : Nat, i < j → j < n → tm i < tm j) → (allSp tm core kind want n).Pairwise (fun a b => a.frm < b.frm)
  | 0, _ => by simp [allSp]
  | n + 1, h => by
    have ih := allSp_sorted want n fun i j h1 h2 => h i j h1 (by omega)
    simp only [allSp]
    rw [List.pairwise_append]
    refine ⟨?_, ?_, ?_⟩
    · rw [List.pairwise_map]
      refine ih.imp fun {a b} hab => ?_
      have e : ∀ s : Sp, (if s.core = core n then updS (kind n) (tm n) s else s).frm = s.frm := fun s => by split <;> simp [updS_frm]
      rw [e, e]
      exact hab
    · split
      · rcases newsK_one (core n) (kind n) (tm n) (spans tm core kind (core n) n) with e | ⟨s, e⟩ <;> rw [e] <;> simp
      · simp
    · intro a ha b hb
      obtain ⟨s', hs', rfl⟩ := List.mem_map.1 ha
      obtain ⟨i, h1, h2⟩ := allSp_frm tm core kind want n s' hs'
      have e : (if s'.core = core n then updS (kind n) (tm n) s' else s').frm = s'.frm := by split <;> simp [updS_frm]
      rw [e, h2]
      split at hb
      · rw [(newsK_mem hb).2.2.1]
        exact h i n h1 (by omega)
      · simp at hb

theorem map_id_of {f : Sp → Sp} {l : List Sp} (h : ∀ s ∈ l, f s = s) : l.map f = l := by
  have : ∀ s ∈ l, f s = id s := h
  rw [List.map_congr_left this, List.map_id]
theorem flatMap_congr' {f g : Int → List Sp} : ∀ {l : List Int}, (∀ x ∈ l, f x = g x) → l.flatMap f = l.flatMap g
  | [], _ => rfl
  | x :: r, h => by
    rw [List.flatMap_cons, List.flatMap_cons, h x List.mem_cons_self, flatMap_congr' fun y hy => h y (List.mem_cons_of_mem _ hy)]
theorem perm_insert {A : List Sp} (f : Int → List Sp) : ∀ (cs : List Int) (c : Int), cs.Nodup → c ∈ cs → (cs.flatMap fun x => f x ++ (if x = c then A else [])).Perm (cs.flatMap f ++ A)
  | [], c, _, h => by simp at h
  | x :: r, c, hnd, h => by
    obtain ⟨hx, hnd⟩ := List.nodup_cons.1 hnd
    simp only [List.flatMap_cons]
    by_cases hc : x = c
    · subst hc
      have : (r.flatMap fun y => f y ++ (if y = x then A else [])) = r.flatMap f := by
        refine flatMap_congr' fun y hy => ?_
        rw [if_neg (fun e : y = x => hx (e ▸ hy)), List.append_nil]
      rw [if_pos rfl, this]
      simp only [List.append_assoc]
      exact List.Perm.append_left _ List.perm_append_comm
    · rw [if_neg hc, List.append_nil, List.append_assoc]
      refine List.Perm.append_left _ (perm_insert f r c hnd ?_)
      rcases List.mem_cons.1 h with h | h
      · exact absurd h.symm hc
      · exact h
/-- one core behind another: the same spans -/
theorem allSp_perm (cs : List Int) (hnd : cs.Nodup) (want : Int → Bool) (hw : ∀ c, want c = true ↔ c ∈ cs) : ∀ n, (allSp tm core kind want n).Perm (cs.flatMap fun c => spans tm core kind c n)
  | 0 => by
    have : (cs.flatMap fun c => spans tm core kind c 0) = [] := by
      rw [List.flatMap_eq_nil_iff]
      intro c _
      rfl
    rw [this]
    exact List.Perm.refl _
  | n + 1 => by
    have ih := allSp_perm cs hnd want hw n
    have e1 : (cs.flatMap fun c => spans tm core kind c (n + 1)) = cs.flatMap fun c => (spans tm core kind c n).map (fun s => if s.core = core n then updS (kind n) (tm n) s else s) ++ (if c = core n then newsK (core n) (kind n) (tm n) (spans tm core kind (core n) n) else []) := by
      refine flatMap_congr' fun c _ => ?_
      rw [spans_succ]
      by_cases hc : core n = c
      · rw [if_pos hc, if_pos hc.symm]
        subst hc
        congr 1
        refine List.map_congr_left fun s hs => ?_
        rw [if_pos (spans_core tm core kind _ n s hs)]
      · rw [if_neg hc, if_neg (Ne.symm hc), List.append_nil]
        refine (map_id_of fun s hs => ?_).symm
        rw [spans_core tm core kind c n s hs, if_neg (Ne.symm hc)]
    rw [e1]
    simp only [allSp]
    by_cases hin : core n ∈ cs
    · rw [if_pos ((hw _).2 hin)]
      refine List.Perm.trans ?_ (perm_insert _ cs (core n) hnd hin).symm
      refine List.Perm.append_right _ ?_
      rw [← List.map_flatMap]
      exact ih.map _
    · rw [if_neg (fun h => hin ((hw _).1 h)), List.append_nil]
      have e2 : (cs.flatMap fun c => (spans tm core kind c n).map (fun s => if s.core = core n then updS (kind n) (tm n) s else s) ++ (if c = core n then newsK (core n) (kind n) (tm n) (spans tm core kind (core n) n) else [])) = cs.flatMap fun c => (spans tm core kind c n).map (fun s => if s.core = core n then updS (kind n) (tm n) s else s) := by
        refine flatMap_congr' fun c hc => ?_
        rw [if_neg (fun e : c = core n => hin (e ▸ hc)), List.append_nil]
      rw [e2, ← List.map_flatMap]
      exact ih.map _
end
/-- a list that is sorted and has just these -/
theorem sorted_unique {L' M : List Sp} (hp : L'.Perm M) (hs : L'.Pairwise (fun a b => a.frm ≤ b.frm)) (hM : M.Pairwise (fun a b => a.frm < b.frm)) : L' = M := by
  refine List.Perm.eq_of_pairwise (le := fun a b => a.frm ≤ b.frm) (fun a b ha hb h1 h2 => ?_) hs (hM.imp fun {a b} h => Int.le_of_lt h) hp
  have ha' := hp.subset ha
  obtain ⟨i, hi, e1⟩ := List.mem_iff_getElem.1 ha'
  obtain ⟨j, hj, e2⟩ := List.mem_iff_getElem.1 hb
  rw [List.pairwise_iff_getElem] at hM
  rcases Nat.lt_trichotomy i j with h | h | h
  · have := hM i j hi hj h
    rw [e1, e2] at this
    omega
  · subst h
    rw [← e1, ← e2]
  · have := hM j i hj hi h
    rw [e1, e2] at this
    omega

/-! ### cores sorted, each once -/
theorem compact_sorted (d : Array Int) (hs : ∀ i j, i < j → j < d.size → d[i]! ≤ d[j]!) : ∀ m, m ≤ d.size → (Lib.compactUpTo d m).Pairwise (· < ·) ∧ ∀ x, x ∈ Lib.compactUpTo d m ↔ ∃ j, j < m ∧ d[j]! = x
  | 0, _ => by simp [Lib.compactUpTo]
  | m + 1, h => by
    obtain ⟨ih1, ih2⟩ := compact_sorted d hs m (by omega)
    rw [Lib.compactUpTo_succ]
    by_cases hk : Lib.keeps d m = true
    · rw [if_pos hk]
      unfold Lib.keeps at hk
      have hk := of_decide_eq_true hk
      refine ⟨?_, fun x => ?_⟩
      · rw [List.pairwise_append]
        refine ⟨ih1, by simp, fun a ha b hb => ?_⟩
        obtain ⟨j, hj, rfl⟩ := (ih2 a).1 ha
        rw [List.mem_singleton.1 hb]
        have h0 : m ≠ 0 := by omega
        have h1 := hk.resolve_left h0
        have h2 := hs (m - 1) m (by omega) (by omega)
        have h3 : d[j]! ≤ d[m - 1]! := by
          by_cases he : j = m - 1
          · rw [he]; exact Int.le_refl _
          · exact hs j (m - 1) (by omega) (by omega)
        omega
      · rw [List.mem_append, ih2, List.mem_singleton]
        constructor
        · rintro (⟨j, h1, h2⟩ | rfl)
          · exact ⟨j, by omega, h2⟩
          · exact ⟨m, by omega, rfl⟩
        · rintro ⟨j, h1, h2⟩
          by_cases he : j = m
          · exact .inr (by rw [← h2, he])
          · exact .inl ⟨j, by omega, h2⟩
    · rw [if_neg hk, List.append_nil]
      refine ⟨ih1, fun x => ?_⟩
      rw [ih2]
      have hk' : ¬ (m = 0 ∨ d[m]! ≠ d[m - 1]!) := fun hh => hk (by unfold Lib.keeps; exact decide_eq_true hh)
      have h0 : m ≠ 0 := fun e => hk' (.inl e)
      have h1 : d[m]! = d[m - 1]! := Classical.byContradiction fun e => hk' (.inr e)
      constructor
      · rintro ⟨j, h2, h3⟩
        exact ⟨j, by omega, h3⟩
      · rintro ⟨j, h2, h3⟩
        by_cases he : j = m
        · exact ⟨m - 1, by omega, by rw [← h1, ← he, h3]⟩
        · exact ⟨j, by omega, h3⟩
theorem cores_ok {xs ys zs : List Int} (hys : ys = xs.mergeSort fun x y => decide (x ≤ y)) (hzs : zs = Lib.compact ys) : zs.Nodup ∧ ∀ c, c ∈ zs ↔ c ∈ xs := by
  have hsort : ys.Pairwise (fun a b => a ≤ b) := by
    rw [hys]
    have := List.pairwise_mergeSort (le := fun x y : Int => decide (x ≤ y)) (fun a b c h1 h2 => by simp at *; omega) (fun a b => by simp; omega) xs
    exact this.imp fun {a b} h => of_decide_eq_true h
  have hs : ∀ i j, i < j → j < ys.toArray.size → ys.toArray[i]! ≤ ys.toArray[j]! := fun i j h1 h2 => by
    rw [List.pairwise_iff_getElem] at hsort
    simp at h2
    have hi : i < ys.length := by omega
    have := hsort i j hi h2 h1
    simpa [hi, h2] using this
  obtain ⟨h1, h2⟩ := compact_sorted ys.toArray hs ys.length (by simp)
  have e : zs = Lib.compactUpTo ys.toArray ys.length := hzs
  rw [← e] at h1 h2
  refine ⟨h1.imp fun {a b} h => by omega, fun c => ?_⟩
  rw [h2]
  have hm : c ∈ ys ↔ c ∈ xs := by rw [hys]; exact List.mem_mergeSort
  rw [← hm]
  constructor
  · rintro ⟨j, h3, rfl⟩
    simp [h3]
  · intro hc
    obtain ⟨j, h3, h4⟩ := List.mem_iff_getElem.1 hc
    exact ⟨j, h3, by simp [h3, h4]⟩

/-- the spans of some cores: they, and how many -/
structure AllIs (tm core kind : Int → Int) (xs : List Int) (n len : Int) (M : List Sp) : Prop where
  l : M = allSp tm core kind (fun c => decide (c ∈ xs)) n.toNat
  len : len = M.length
theorem rowOf_frm {tm core kind : Int → Int} {n : Int} {zs : List Int} {s : Sp} (h : s ∈ rowOf tm core kind n zs) : ∃ i : Int, 0 ≤ i ∧ i < n ∧ s.frm = tm i := by
  unfold rowOf at h
  obtain ⟨c, _, hs⟩ := List.mem_flatMap.1 h
  obtain ⟨i, h1, h2⟩ := spans_frm tm core kind c _ s hs
  exact ⟨i, by omega, by omega, h2⟩
theorem all_is {tm core kind : Int → Int} {n q i len : Int} {xs ys zs : List Int} {L L' : List Sp} (hup : ∀ i j : Int, 0 ≤ i → i < j → j < n → tm i < tm j) (hys : ys = xs.mergeSort fun x y => decide (x ≤ y)) (hzs : zs = Lib.compact ys)
    (hq : q = zs.length) (hi : q ≤ i) (hL : L = rowOf tm core kind n (zs.take i.toNat)) (hlen : len = L.length) (hp : L'.Perm L) (hs : L'.Pairwise (fun a b => a.frm ≤ b.frm)) : AllIs tm core kind xs n len L' := by
  obtain ⟨hnd, hmem⟩ := cores_ok hys hzs
  have e : zs.take i.toNat = zs := List.take_of_length_le (by omega)
  rw [e] at hL
  have hP := allSp_perm tm core kind zs hnd (fun c => decide (c ∈ xs)) (fun c => by rw [decide_eq_true_eq, hmem]) n.toNat
  have hS := allSp_sorted tm core kind (fun c => decide (c ∈ xs)) n.toNat (fun i j h1 h2 => hup i j (by omega) (by omega) (by omega))
  refine ⟨sorted_unique (hp.trans ?_) hs hS, by rw [hp.length_eq]; exact hlen⟩
  rw [hL]
  exact hP.symm
theorem may_up {n : Int} {tm core kind : Int → Int} (hok : ∀ i : Int, 0 ≤ i → i < n → okAt tm core kind i) : ∀ i j : Int, 0 ≤ i → i < j → j < n → tm i < tm j := by
  intro i j h0 hij hj
  obtain ⟨k, hk⟩ : ∃ k : Nat, j = i + 1 + k := ⟨(j - i - 1).toNat, by omega⟩
  subst hk
  clear hij
  induction k with
  | zero =>
    have := (hok (i + 1) (by omega) (by omega)).2.1 (by omega)
    simpa using this
  | succ k ih =>
    have h1 := ih (by omega)
    have h2 := (hok (i + 1 + (k + 1 : Nat)) (by omega) hj).2.1 (by omega)
    rw [show i + 1 + ((k + 1 : Nat) : Int) - 1 = i + 1 + k by omega] at h2
    omega
end Go.Sx
