import Derived.Test.YtpkapjlcmoikoaaSpP
set_option linter.all false
/-
  What is true of a core's spans.
-/
namespace Go.Sx
open Go
set_option linter.all false
/-- how many of the first entries are a core's -/
def cntC (core : Int → Int) (c : Int) : Nat → Int
  | 0 => 0
  | n + 1 => cntC core c n + (if core n = c then 1 else 0)
theorem cntC_le (core : Int → Int) (c : Int) : ∀ n, 0 ≤ cntC core c n ∧ cntC core c n ≤ n
  | 0 => by simp [cntC]
  | n + 1 => by
    have := cntC_le core c n
    simp only [cntC]
    split <;> omega
/-- a span as it is, and another one behind it -/
structure SpanOk (tm core : Int → Int) (c : Int) (n : Nat) (s : Sp) : Prop where
  core' : s.core = c
  kind' : s.kind = 0 ∨ s.kind = 1 ∨ s.kind = 2
  n1 : 1 ≤ s.n
  n2 : s.n ≤ cntC core c n
  frm : ∃ i : Nat, i < n ∧ core i = c ∧ tm i = s.frm
  to' : s.to = -1 ∨ (s.frm < s.to ∧ ∃ i : Nat, i < n ∧ core i = c ∧ tm i = s.to)
structure Behind (a b : Sp) : Prop where
  frm : a.frm < b.frm
  kind' : a.kind = b.kind → 0 ≤ a.to ∧ a.to < b.frm
section
variable {tm core kind : Int → Int} (c : Int)
theorem spans_ok : ∀ n : Nat, (∀ i : Nat, i < n → 0 ≤ tm i) → (∀ i j : Nat, i < j → j < n → tm i < tm j) → (∀ s ∈ spans tm core kind c n, SpanOk tm core c n s) ∧ (spans tm core kind c n).Pairwise Behind
  | 0, _, _ => by simp [spans]
  | n + 1, h0, h1 => by
    obtain ⟨ih1, ih2⟩ := spans_ok n (fun i h => h0 i (by omega)) (fun i j h k => h1 i j h (by omega))
    have hcnt := cntC_le core c n
    have hkinds := spans_kinds tm core kind c n
    have ec : cntC core c (n + 1) = cntC core c n + (if core n = c then 1 else 0) := rfl
    have h00 := h0 n (by omega)
    rw [spans_succ]
    split
    · rename_i hc
      rw [if_pos hc] at ec
      have new : ∀ s ∈ newsK c (kind n) (tm n) (spans tm core kind c n), SpanOk tm core c (n + 1) s := fun s hs => by
        obtain ⟨e1, e2, e3, e4, e5, _, _⟩ := newsK_mem hs
        exact ⟨e1, e2, by omega, by omega, ⟨n, by omega, hc, e3.symm⟩, .inl e4⟩
      have old : ∀ s ∈ spans tm core kind c n, SpanOk tm core c (n + 1) (updS (kind n) (tm n) s) := fun s hs => by
        obtain ⟨k1, k2, k3, k4, ⟨i, k5, k6, k7⟩, k8⟩ := ih1 s hs
        have hlt := h1 i n k5 (by omega)
        refine ⟨by rw [updS_core]; exact k1, by rw [updS_kind]; exact k2, ?_, ?_, ⟨i, by omega, k6, by rw [updS_frm]; exact k7⟩, ?_⟩
        · unfold updS; split <;> (try simp only) <;> omega
        · unfold updS; split <;> (try simp only) <;> omega
        · unfold updS
          split
          · simp only
            split
            · exact .inr ⟨by omega, n, by omega, hc, rfl⟩
            · exact .inl rfl
          · rename_i hne
            obtain ⟨g1, j, g2, g3, g4⟩ := k8.resolve_left hne
            exact .inr ⟨g1, j, by omega, g3, g4⟩
      refine ⟨fun s hs => ?_, ?_⟩
      · rcases List.mem_append.1 hs with hs | hs
        · obtain ⟨s', hs', rfl⟩ := List.mem_map.1 hs
          exact old s' hs'
        · exact new s hs
      · rw [List.pairwise_append]
        refine ⟨?_, ?_, fun a ha b hb => ?_⟩
        · rw [List.pairwise_map]
          refine ih2.imp fun {a b} hab => ⟨by rw [updS_frm, updS_frm]; exact hab.frm, fun hk => ?_⟩
          rw [updS_kind, updS_kind] at hk
          have := hab.kind' hk
          have e : updS (kind n) (tm n) a = a := by unfold updS; rw [if_neg (by omega)]
          rw [e, updS_frm]
          exact this
        · rcases newsK_one c (kind n) (tm n) (spans tm core kind c n) with e | ⟨s, e⟩ <;> rw [e] <;> simp
        · obtain ⟨a', ha', rfl⟩ := List.mem_map.1 ha
          obtain ⟨e1, e2, e3, e4, e5, e6, _⟩ := newsK_mem hb
          obtain ⟨k1, k2, k3, k4, ⟨i, k5, k6, k7⟩, k8⟩ := ih1 a' ha'
          have hlt := h1 i n k5 (by omega)
          refine ⟨by rw [updS_frm, e3]; omega, fun hk => ?_⟩
          rw [updS_kind] at hk
          have hne : a'.to ≠ -1 := fun ht => by
            have : hasOpen b.kind (spans tm core kind c n) = true := by
              simp only [hasOpen, List.any_eq_true, Bool.and_eq_true, beq_iff_eq]
              exact ⟨a', ha', hk, ht⟩
            rw [e6] at this
            cases this
          obtain ⟨g1, j, g2, g3, g4⟩ := k8.resolve_left hne
          have e : updS (kind n) (tm n) a' = a' := by unfold updS; rw [if_neg hne]
          have h2 := h1 j n g2 (by omega)
          have h3 := h0 i (by omega)
          rw [e, e3]
          omega
    · rename_i hc
      rw [if_neg hc] at ec
      refine ⟨fun s hs => ?_, ih2⟩
      obtain ⟨k1, k2, k3, k4, ⟨i, k5, k6, k7⟩, k8⟩ := ih1 s hs
      refine ⟨k1, k2, k3, by omega, ⟨i, by omega, k6, k7⟩, ?_⟩
      rcases k8 with k8 | ⟨g1, j, g2, g3, g4⟩
      · exact .inl k8
      · exact .inr ⟨g1, j, by omega, g3, g4⟩
theorem allSp_one (want : Int → Bool) (hw : ∀ x, want x = true ↔ x = c) : ∀ n, allSp tm core kind want n = spans tm core kind c n
  | 0 => rfl
  | n + 1 => by
    have ih := allSp_one want hw n
    simp only [allSp]
    rw [ih, spans_succ]
    by_cases hc : core n = c
    · rw [if_pos ((hw _).2 hc), if_pos hc, hc]
      congr 1
      exact List.map_congr_left fun s hs => by rw [if_pos (spans_core tm core kind c n s hs)]
    · rw [if_neg (fun h => hc ((hw _).1 h)), if_neg hc, List.append_nil]
      exact map_id_of fun s hs => by rw [if_neg (fun e : s.core = core n => hc (by rw [← e]; exact spans_core tm core kind c n s hs))]
end
/-! ### what the law keeps beside the spans of a kind -/
def endK (k : Int) (l : List Sp) : Int := l.foldl (fun e s => if s.kind = k then s.to else e) (-1)
def openK (k : Int) (l : List Sp) : Bool := l.foldl (fun o s => if s.kind = k then decide (s.to < 0) else o) false
theorem fold_shut {k f : Int} : ∀ {l : List Sp} {e : Int} {o : Bool}, (∀ s ∈ l, s.kind = k → 0 ≤ s.to ∧ s.to < f) → e < f → o = false → l.foldl (fun e s => if s.kind = k then s.to else e) e < f ∧ l.foldl (fun o s => if s.kind = k then decide (s.to < 0) else o) o = false
  | [], e, o, _, h1, h2 => ⟨h1, h2⟩
  | s :: r, e, o, h, h1, h2 => by
    simp only [List.foldl_cons]
    by_cases hk : s.kind = k
    · have := h s List.mem_cons_self hk
      rw [if_pos hk, if_pos hk]
      exact fold_shut (fun x hx => h x (List.mem_cons_of_mem _ hx)) this.2 (by simp; omega)
    · rw [if_neg hk, if_neg hk]
      exact fold_shut (fun x hx => h x (List.mem_cons_of_mem _ hx)) h1 h2
theorem take_succ_getD {M : List Sp} {i : Int} (h0 : 0 ≤ i) (h1 : i < M.length) : M.take (i + 1).toNat = M.take i.toNat ++ [M.getD i.toNat default] := by
  have hi : i.toNat < M.length := by omega
  rw [show (i + 1).toNat = i.toNat + 1 by omega, List.take_succ]
  simp [List.getD, hi]
theorem endK_succ {k : Int} {M : List Sp} {i : Int} (h0 : 0 ≤ i) (h1 : i < M.length) : endK k (M.take (i + 1).toNat) = if (M.getD i.toNat default).kind = k then (M.getD i.toNat default).to else endK k (M.take i.toNat) := by
  rw [take_succ_getD h0 h1]
  unfold endK
  rw [List.foldl_append]
  rfl
theorem openK_succ {k : Int} {M : List Sp} {i : Int} (h0 : 0 ≤ i) (h1 : i < M.length) : openK k (M.take (i + 1).toNat) = if (M.getD i.toNat default).kind = k then decide ((M.getD i.toNat default).to < 0) else openK k (M.take i.toNat) := by
  rw [take_succ_getD h0 h1]
  unfold openK
  rw [List.foldl_append]
  rfl
theorem getD_get (M : List Sp) (i : Nat) (h : i < M.length) : M.getD i default = M[i] := by simp [List.getD, h]
/-- all that the law asks of a place of the list -/
structure PlaceOk (tm core : Int → Int) (c n many : Int) (M : List Sp) (i : Int) : Prop where
  core' : (M.getD i.toNat default).core = c
  n1 : 1 ≤ (M.getD i.toNat default).n
  n2 : (M.getD i.toNat default).n ≤ many
  frm : ∃ j : Int, 0 ≤ j ∧ j < n ∧ core j = c ∧ tm j = (M.getD i.toNat default).frm
  to' : (M.getD i.toNat default).to < 0 ∨ ((M.getD i.toNat default).frm < (M.getD i.toNat default).to ∧ ∃ j : Int, 0 ≤ j ∧ j < n ∧ core j = c ∧ tm j = (M.getD i.toNat default).to)
  prev : 0 < i → (M.getD (i - 1).toNat default).frm < (M.getD i.toNat default).frm
  shut : ∀ k, (M.getD i.toNat default).kind = k → endK k (M.take i.toNat) < (M.getD i.toNat default).frm ∧ openK k (M.take i.toNat) = false
theorem place_ok {tm core kind : Int → Int} {c n many : Int} {M : List Sp} (hok : ∀ i : Int, 0 ≤ i → i < n → okAt tm core kind i) (hM : M = spans tm core kind c n.toNat) (hm : many = cntC core c n.toNat) {i : Int} (h0 : 0 ≤ i) (h1 : i < M.length) : PlaceOk tm core c n many M i := by
  have hup := may_up hok
  obtain ⟨g1, g2⟩ := spans_ok (tm := tm) (core := core) (kind := kind) c n.toNat (fun i h => (hok i (by omega) (by omega)).1) (fun i j h k => hup i j (by omega) (by omega) (by omega))
  rw [← hM] at g1 g2
  have hi : i.toNat < M.length := by omega
  have e : M.getD i.toNat default = M[i.toNat] := getD_get _ _ hi
  obtain ⟨k1, k2, k3, k4, ⟨a, k5, k6, k7⟩, k8⟩ := g1 _ (List.getElem_mem hi)
  rw [List.pairwise_iff_getElem] at g2
  have hfrm0 : 0 ≤ M[i.toNat].frm := by rw [← k7]; exact (hok a (by omega) (by omega)).1
  refine ⟨by rw [e]; exact k1, by rw [e]; exact k3, by rw [e, hm]; exact k4, ⟨a, by omega, by omega, k6, by rw [e]; exact k7⟩, ?_, fun hp => ?_, fun k hk => ?_⟩
  · rw [e]
    rcases k8 with k8 | ⟨f1, b, f2, f3, f4⟩
    · exact .inl (by omega)
    · exact .inr ⟨f1, b, by omega, by omega, f3, f4⟩
  · have hi' : (i - 1).toNat < M.length := by omega
    have e' : M.getD (i - 1).toNat default = M[(i - 1).toNat] := getD_get _ _ hi'
    rw [e, e']
    have hlt : (i - 1).toNat < i.toNat := by clear k8 g2; omega
    exact (g2 _ _ hi' hi hlt).frm
  · refine fold_shut (fun s hs hsk => ?_) (by rw [e]; omega) rfl
    obtain ⟨b, hb, rfl⟩ := List.mem_iff_getElem.1 hs
    rw [List.length_take] at hb
    rw [List.getElem_take] at hsk ⊢
    rw [e] at hk ⊢
    exact (g2 b i.toNat (by omega) hi (by omega)).kind' (by rw [hsk, hk])
end Go.Sx
