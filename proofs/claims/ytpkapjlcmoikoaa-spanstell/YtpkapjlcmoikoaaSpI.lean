import Derived.Test.YtpkapjlcmoikoaaSpH
set_option linter.all false
/-
  The shelf's slices.Sort and slices.Compact at ints, as calls of the executor.
-/
namespace Go.Sx
open Go Go.Sort Go.Proofs

theorem intRow_R {ρ : Rho} {xs : List Int} {e : E} {j : Nat} {v : Value} : SV.R ρ (intRow (listI xs) j e) v ↔ v = .int .i64 (listI xs e.i) := by
  simp [intRow, SV.R]
theorem arr_get (xs : List Int) (i : Nat) : (xs.toArray)[i]! = listI xs i := by
  unfold listI
  rw [Int.toNat_natCast]
  by_cases h : i < xs.length
  · simp [List.getD, h]
  · simp [List.getD, h]

theorem toCalls {P : Program} {f : FuncId} {vs : Array Value} {w : World} {R' : Ending → World → Prop} {ro : Option Nat} (hc : Calls P f vs w R') : CallsIn (FW ro) 0 P f vs w R' := (callsIn_wide (n := 0)).2 hc

/-- slices.Sort at ints -/
theorem sort_ints {C : Cx} {H : Heap} {nx : Nat} {k : SV → Heap → Nat → Prop} {h : Nat} {t : TypeId} {n : E} {cap : Option E} {xs : List Int} (hf : hfind H h = some (true, .row t 1 n (intRow (listI xs)))) (hn : n.i = xs.length)
    (hsz : xs.length < 4611686018427387904) {ys : List Int} (hys : ys = xs.mergeSort fun x y => decide (x ≤ y))
    (hk : k (.tup []) (hset H h (true, .row t 1 n (intRow (listI ys)))) nx) : CallOb PP C 28 [.sl h 1 (.c 0) n cap] H nx k := by
  subst hys
  refine ⟨fun ρ vs w R ro hargs hrep hR => ?_⟩
  have hn' : n.i.toNat = xs.length := by omega
  have hcap : ∀ c : Nat, n.i.toNat ≤ c → xs.length ≠ 0 → c ≠ 0 := fun c _ _ => by omega
  have hempty : xs.length = 0 → xs = [] := fun h => List.length_eq_zero_iff.1 (by omega)
  obtain ⟨vs⟩ := vs
  match vs, hargs with
  | [v0], hargs =>
  simp only [SV.RL, SV.R, and_true] at hargs
  obtain ⟨_, h0, op, oa, c, h1, rfl, h2, h3, h4, h5⟩ := hargs
  rw [hn']
  by_cases hz : xs.length = 0
  · rw [hz]
    have hL0 : xs = [] := hempty hz
    subst hL0
    have hc := Try.slices_Sort_int_none oa c w
    change Calls PP 28 _ _ _ at hc
    refine toCalls (hc.mono fun e w' ⟨he, hw⟩ => ?_)
    subst he
    subst hw
    rw [List.mergeSort_nil] at hk
    exact hR (.tup []) _ _ nx ρ _ hk (by simp only [SV.R]; exact ⟨#[], rfl, trivial⟩) (hrep.congr (hset_same hf)) (Agree.refl _ _) rfl (Nat.le_refl _)
  · have hc0 : c ≠ 0 := hcap c h2 hz
    obtain ⟨p, rfl, rfl, _⟩ := h5 hc0
    clear h5
    obtain ⟨how, _⟩ := hrep.own h _ p hf h1
    have how : OwnBlock w p := how
    have hadr : p.a.add (Off.c 0).n = ⟨p.a.block, p.a.off, none⟩ := addr_at how 0
    rw [hadr]
    have hH : Holds (Value.int .i64) w p.a.block p.a.off xs.toArray := by
      refine holds_of_row hrep hf h1 xs.toArray (by simp; omega) (by decide) fun e j e1 e2 e3 v hv => ?_
      obtain rfl : j = 0 := by omega
      rw [arr_get, intRow_R.1 hv]
      congr 2
      omega
    have hcon := Try.slices_Sort_int p.a.block p.a.off c xs w hH (hrep.lt h p h1) hsz
    change Calls PP 28 _ _ _ at hcon
    refine toCalls (hcon.mono fun e w' ⟨he, q, os, hw⟩ => ?_)
    subst he
    subst hw
    refine hR (.tup []) _ _ nx ρ _ hk (by simp only [SV.R]; exact ⟨#[], rfl, trivial⟩) ?_ (Agree.refl _ _) rfl (Nat.le_refl _)
    refine hrep.putRow hf h1 xs.toArray _ hH (by simp) (by simp; omega) q os _ (fun e j e1 e2 e3 => ?_) (fun j hj => rfl)
    obtain rfl : j = 0 := by omega
    rw [arr_get, intRow_R]
    congr 2
    omega

theorem listI_zeros (ys : List Int) (m : Nat) : listI (ys ++ List.replicate m 0) = listI ys := by
  funext i
  unfold listI
  by_cases h : i.toNat < ys.length
  · simp only [List.getD]
    rw [List.getElem?_append_left h]
  · simp only [List.getD]
    rw [List.getElem?_append_right (by omega), List.getElem?_eq_none (l := ys) (by omega), List.getElem?_replicate]
    split <;> rfl

/-- slices.Compact at ints -/
theorem compact_ints {C : Cx} {H : Heap} {nx : Nat} {k : SV → Heap → Nat → Prop} {h : Nat} {t : TypeId} {n : E} {cap : Option E} {xs : List Int} (hf : hfind H h = some (true, .row t 1 n (intRow (listI xs)))) (hn : n.i = xs.length)
    (hsz : xs.length < 4611686018427387904) {ys : List Int} (hys : ys = Lib.compact xs) {m : Int} (hm : m = ys.length) (hle : ys.length ≤ xs.length)
    (hk : k (.sl h 1 (.c 0) (.sh m) none) (hset H h (true, .row t 1 n (intRow (listI ys)))) nx) : CallOb PP C 29 [.sl h 1 (.c 0) n cap] H nx k := by
  subst hm
  subst hys
  refine ⟨fun ρ vs w R ro hargs hrep hR => ?_⟩
  have hn' : n.i.toNat = xs.length := by omega
  have hcap : ∀ c : Nat, n.i.toNat ≤ c → xs.length ≠ 0 → c ≠ 0 := fun c _ _ => by omega
  have hcap' : ∀ c : Nat, n.i.toNat ≤ c → xs.length ≤ c ∧ (Lib.compact xs).length ≤ c := fun c _ => by omega
  have hempty : xs.length = 0 → xs = [] := fun h => List.length_eq_zero_iff.1 (by omega)
  obtain ⟨vs⟩ := vs
  match vs, hargs with
  | [v0], hargs =>
  simp only [SV.RL, SV.R, and_true] at hargs
  obtain ⟨_, h0, op, oa, c, h1, rfl, h2, h3, h4, h5⟩ := hargs
  rw [hn']
  by_cases hz : xs.length = 0
  · rw [hz]
    have hL0 : xs = [] := hempty hz
    subst hL0
    have hc := Try.slices_Compact_int_empty oa c w
    change Calls PP 29 _ _ _ at hc
    refine toCalls (hc.mono fun e w' ⟨he, hw⟩ => ?_)
    subst he
    subst hw
    refine hR _ _ _ nx ρ _ hk ?_ (hrep.congr (hset_same hf)) (Agree.refl _ _) rfl (Nat.le_refl _)
    simp only [SV.R]
    exact ⟨trivial, by simp, op, oa, c, h1, rfl, by simp [Lib.compact, Lib.compactUpTo], h3, noCap, h5⟩
  · have hc0 : c ≠ 0 := hcap c h2 hz
    obtain ⟨p, rfl, rfl, hpn⟩ := h5 hc0
    clear h5
    obtain ⟨how, _⟩ := hrep.own h _ p hf h1
    have how : OwnBlock w p := how
    have hadr : p.a.add (Off.c 0).n = ⟨p.a.block, p.a.off, none⟩ := addr_at how 0
    rw [hadr]
    have hH : Holds (Value.int .i64) w p.a.block p.a.off xs.toArray := by
      refine holds_of_row hrep hf h1 xs.toArray (by simp; omega) (by decide) fun e j e1 e2 e3 v hv => ?_
      obtain rfl : j = 0 := by omega
      rw [arr_get, intRow_R.1 hv]
      congr 2
      omega
    have hcon := Try.slices_Compact_int p.a.block p.a.off c xs w hH (by omega) (hcap' c h2).1
    change Calls PP 29 _ _ _ at hcon
    refine toCalls (hcon.mono fun e w' ⟨he, q, hw⟩ => ?_)
    subst he
    subst hw
    have hsz' : (Lib.compact xs ++ List.replicate (xs.length - (Lib.compact xs).length) 0).length = xs.length := by simp; omega
    refine hR _ _ _ nx ρ _ hk ?_ ?_ (Agree.refl _ _) rfl (Nat.le_refl _)
    · simp only [SV.R]
      exact ⟨trivial, by simp, some p, _, c, h1, rfl, by simpa using (hcap' c h2).2, h3, noCap, fun _ => ⟨p, rfl, by rw [hadr], hpn⟩⟩
    · have := hrep.putRow hf h1 xs.toArray (Lib.compact xs ++ List.replicate (xs.length - (Lib.compact xs).length) 0).toArray hH (by simp; omega) (by simp; omega) q #[] (intRow (listI (Lib.compact xs))) (fun e j e1 e2 e3 => by
        obtain rfl : j = 0 := by omega
        rw [arr_get, intRow_R, listI_zeros]
        congr 2
        omega) (fun j hj => rfl)
      rwa [grow_empty] at this
end Go.Sx
