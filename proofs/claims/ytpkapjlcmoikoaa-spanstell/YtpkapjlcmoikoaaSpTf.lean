import Derived.Test.YtpkapjlcmoikoaaSpTb
set_option linter.all false
/-
  From a row's arguments to the symbolic ones: a slice of logs, a slice of ints.
-/
namespace Go.Sx
open Go Go.ChangeShapes Go.WideShapes Go.ChangeAt Go.RowKit Go.Deep
set_option linter.all false
set_option maxRecDepth 100000
theorem listI_map {len : Nat} (F : Nat → Int) {q : Nat} (h : q < len) : ((List.range len).map F).getD q 0 = F q := by
  simp [List.getD, h]
/-- a slice of ints, as it stands at a call -/
theorem open_ints {H : Type} {enc : TypeId × Value → H} {w : World} {held : Bool} {fuel : Nat} {cs : List Value} {x : DataW H × List MemPlace} (h : DataW.trod enc PP w 0 (fun _ => true) held fuel 44 cs = some x) :
    ∃ (oa : Option Addr) (len cap : Nat) (xs : List Int) (op : Option Pl), cs = [.slice oa len cap] ∧ len ≤ cap ∧ cap ≤ maxLen ∧ (cap ≠ 0 → ∃ p, op = some p ∧ oa = some (p.a.add 0) ∧ 0 + cap * 1 ≤ p.n) ∧ (∀ p, op = some p → p.a.block < w.heap.size) ∧
      (∀ p, op = some p → len * 1 ≤ p.n) ∧ xs.length = len ∧ ∀ (e : E) (j : Nat), 0 ≤ e.i → e.i < len → j < 1 → ∃ p v, op = some p ∧ w.cell? (p.a.add (e.i.toNat * 1 + j)) = some v ∧ v.oneCell' = true ∧ ∀ ρ, SV.R ρ (intRow (listI xs) j e) v := by
  have hc1 : PP.cellsOf 3 = 1 := by kernel_rfl
  rcases open_slice (P := PP) (e := 3) Go.Proofs.Try.underlying44 h with ⟨hcs, _⟩ | ⟨a, len, cap, m, n, D, Pl', hcs, _, hl, hm, hmm, _, hi⟩
  · exact ⟨none, 0, 0, [], none, hcs, Nat.le_refl _, by simp [maxLen], fun h => absurd rfl h, (fun p hp => by cases hp), (fun p hp => by cases hp), rfl, (fun e j h1 h2 => by omega)⟩
  · simp only [if_true] at hmm
    subst hmm
    have hf : ∀ i, i < m → ∃ z : Int, w.cell? (a.add i) = some (.int .i64 z) := fun i him => by
      obtain ⟨cs', hc, ht⟩ := hi i him
      rw [hc1, Nat.mul_one] at hc
      obtain ⟨_, hcl, hat⟩ := World.cells?_some hc
      have h0 := hat 0 (by omega)
      obtain ⟨v, hv⟩ : ∃ v, cs' = [v] := by
        match cs', hcl with
        | [v], _ => exact ⟨v, rfl⟩
      subst hv
      obtain ⟨z, hz, _, _⟩ := DataW.trod_int Go.Proofs.Try.underlying3 ht
      cases hz
      refine ⟨z, ?_⟩
      have e0 : (a.add i).add 0 = a.add i := by rw [Addr.add_add', Nat.add_zero]
      rw [e0] at h0
      simpa using h0
    by_cases h0 : m = 0
    · subst h0
      have : len = 0 := by omega
      subst this
      exact ⟨some a, 0, 0, [], none, hcs, Nat.le_refl _, by simp [maxLen], fun h => absurd rfl h, (fun p hp => by cases hp), (fun p hp => by cases hp), rfl, (fun e j h1 h2 => by omega)⟩
    · refine ⟨some a, len, m, (List.range len).map fun i => intAt w (a.add i), some ⟨a, m⟩, hcs, hl, hm, fun _ => ⟨⟨a, m⟩, rfl, by simp [Addr.add], by simp⟩, fun p hp => ?_, fun p hp => ?_, by simp, fun e j h1 h2 h3 => ?_⟩
      · cases hp
        obtain ⟨z, hc⟩ := hf 0 (by omega)
        have := cell_lt hc
        rwa [Addr.add_block] at this
      · cases hp
        simpa using hl
      · have hi : e.i.toNat < m := by omega
        obtain ⟨z, hc⟩ := hf e.i.toNat hi
        obtain rfl : j = 0 := by omega
        refine ⟨_, _, rfl, by simpa using hc, rfl, fun ρ => ?_⟩
        simp only [intRow, SV.R, E.i_f1, listI]
        rw [listI_map _ (by omega), intAt_of hc]
/-- two rows that lay there -/
theorem rep_two {w : World} {op op' : Option Pl} {len len' : Nat} {tm core kind fk flat : Int → Int} {xs : List Int} (hlt : ∀ p, op = some p → p.a.block < w.heap.size) (hn : ∀ p, op = some p → len * 5 ≤ p.n)
    (hc : ∀ (e : E) (j : Nat), 0 ≤ e.i → e.i < len → j < 5 → ∃ p v, op = some p ∧ w.cell? (p.a.add (e.i.toNat * 5 + j)) = some v ∧ v.oneCell' = true ∧ ∀ ρ, SV.R ρ (rowL tm core kind fk flat j e) v)
    (hlt' : ∀ p, op' = some p → p.a.block < w.heap.size) (hn' : ∀ p, op' = some p → len' * 1 ≤ p.n)
    (hc' : ∀ (e : E) (j : Nat), 0 ≤ e.i → e.i < len' → j < 1 → ∃ p v, op' = some p ∧ w.cell? (p.a.add (e.i.toNat * 1 + j)) = some v ∧ v.oneCell' = true ∧ ∀ ρ, SV.R ρ (intRow (listI xs) j e) v) :
    Rep ⟨w, fun _ => False⟩ ⟨fun h => if h = 0 then some op else if h = 1 then some op' else none, [], []⟩ [(1, false, .row 3 1 (.sh len') (intRow (listI xs))), (0, false, .row 31 5 (.sh len) (rowL tm core kind fk flat))] 2 w := by
  refine ⟨fun h own o hf => ?_, fun h o p hf => ?_, fun h o h' own' o' p p' _ hf => ?_, fun h hh => ?_, fun h p hp => ?_, Nat.le_refl _, fun _ _ _ => rfl, rfl, rfl, rfl, dfr_nil _ _ _ _⟩
  · rw [hfind_cons] at hf
    split at hf
    · rename_i e
      subst e
      cases hf
      refine ⟨op', rfl, ⟨by simp, fun p hp => by simpa using hn' p hp⟩, fun e j h1 h2 h3 => ?_⟩
      obtain ⟨p, v, e1, e2, e3, e4⟩ := hc' e j h1 (by simpa using h2) h3
      exact ⟨p, v, e1, e2, e3, e4 _⟩
    · rw [hfind_cons] at hf
      split at hf
      · rename_i e
        subst e
        cases hf
        refine ⟨op, rfl, ⟨by simp, fun p hp => by simpa using hn p hp⟩, fun e j h1 h2 h3 => ?_⟩
        obtain ⟨p, v, e1, e2, e3, e4⟩ := hc e j h1 (by simpa using h2) h3
        exact ⟨p, v, e1, e2, e3, e4 _⟩
      · cases hf
  · rw [hfind_cons] at hf
    split at hf
    · cases hf
    · rw [hfind_cons] at hf
      split at hf
      · cases hf
      · cases hf
  · rw [hfind_cons] at hf
    split at hf
    · cases hf
    · rw [hfind_cons] at hf
      split at hf
      · cases hf
      · cases hf
  · have h0 : h ≠ 0 := by omega
    have h1 : h ≠ 1 := by omega
    simp only [if_neg h0, if_neg h1]
  · simp only at hp
    split at hp
    · cases hp
      exact hlt p rfl
    · split at hp
      · cases hp
        exact hlt' p rfl
      · cases hp
theorem calls_L2 {f : FuncId} {more : List SV} {vs : List Value} (h : WalkL2 f more) {w : World} {oa oa' : Option Addr} {len cap len' cap' : Nat} {tm core kind fk flat : Int → Int} {xs : List Int} {op op' : Option Pl} (hl : len ≤ cap) (hm : cap ≤ maxLen) (hp : cap ≠ 0 → ∃ p, op = some p ∧ oa = some (p.a.add 0) ∧ 0 + cap * 5 ≤ p.n)
    (hlt : ∀ p, op = some p → p.a.block < w.heap.size) (hn : ∀ p, op = some p → len * 5 ≤ p.n) (hr : Ranged len tm core kind fk flat)
    (hc : ∀ (e : E) (j : Nat), 0 ≤ e.i → e.i < len → j < 5 → ∃ p v, op = some p ∧ w.cell? (p.a.add (e.i.toNat * 5 + j)) = some v ∧ v.oneCell' = true ∧ ∀ ρ, SV.R ρ (rowL tm core kind fk flat j e) v)
    (hl' : len' ≤ cap') (hm' : cap' ≤ maxLen) (hp' : cap' ≠ 0 → ∃ p, op' = some p ∧ oa' = some (p.a.add 0) ∧ 0 + cap' * 1 ≤ p.n)
    (hlt' : ∀ p, op' = some p → p.a.block < w.heap.size) (hn' : ∀ p, op' = some p → len' * 1 ≤ p.n) (hx' : xs.length = len')
    (hc' : ∀ (e : E) (j : Nat), 0 ≤ e.i → e.i < len' → j < 1 → ∃ p v, op' = some p ∧ w.cell? (p.a.add (e.i.toNat * 1 + j)) = some v ∧ v.oneCell' = true ∧ ∀ ρ, SV.R ρ (intRow (listI xs) j e) v)
    (hx : ∀ ρ, SV.RL ρ more vs) {args : Array Value} (hargs : args.toList = .slice oa len cap :: .slice oa' len' cap' :: vs) : Calls PP f args w fun e w' => e = .returned (.bool true) ∧ Below w.heap.size w w' := by
  refine calls_of (h ⟨w, fun _ => False⟩ len len' tm core kind fk flat xs (Int.natCast_nonneg _) (by unfold maxLen at hm; omega) (by rw [hx']) (by unfold maxLen at hm'; omega) hr) ?_ (rep_two hlt hn hc hlt' hn' hc') fun s v H' nx' ρ' w' hs hr hrep => ?_
  · rw [hargs]
    simp only [SV.RL]
    refine ⟨?_, ?_, hx _⟩
    · simp only [SV.R]
      exact ⟨trivial, by simp, op, oa, cap, rfl, by simp, by simp; exact hl, hm, noCap, fun hc => by simpa [Off.n] using hp hc⟩
    · simp only [SV.R]
      exact ⟨trivial, by simp, op', oa', cap', rfl, by simp, by simp; exact hl', hm', noCap, fun hc => by simpa [Off.n] using hp' hc⟩
  · subst hs
    simp only [SV.R, E.b_bl] at hr
    subst hr
    exact ⟨rfl, hrep.os, hrep.tape, hrep.output, hrep.size, fun k hk => hrep.frame k hk (fun x => x)⟩
section
variable {H : Type} {enc : TypeId × Value → H} {P : Program} {w : World} {base : Nat} {spare : Nat → Bool} {held : Bool}
theorem trodAll_five {t0 t1 t2 t3 t4 : TypeId} {args : Array Value} {ds : List (DataW H)} {ps : List MemPlace} (h : DataW.TrodAll enc P w base spare held [t0, t1, t2, t3, t4] args.toList ds ps) :
    ∃ v0 v1 v2 v3 v4 d0 d1 d2 d3 d4 p0 p1 p2 p3 p4, args = #[v0, v1, v2, v3, v4] ∧ ds = [d0, d1, d2, d3, d4] ∧ ps = p0 ++ (p1 ++ (p2 ++ (p3 ++ p4))) ∧ DataW.Trod enc P w base spare held t0 v0 d0 p0 ∧ DataW.Trod enc P w base spare held t1 v1 d1 p1 ∧
      DataW.Trod enc P w base spare held t2 v2 d2 p2 ∧ DataW.Trod enc P w base spare held t3 v3 d3 p3 ∧ DataW.Trod enc P w base spare held t4 v4 d4 p4 := by
  obtain ⟨v0, vs0, d0, ds0, p0, q0, hargs, rfl, rfl, h0, r0⟩ := trodAll_cons h
  obtain ⟨v1, vs1, d1, ds1, p1, q1, rfl, rfl, rfl, h1, r1⟩ := trodAll_cons r0
  obtain ⟨v2, vs2, d2, ds2, p2, q2, rfl, rfl, rfl, h2, r2⟩ := trodAll_cons r1
  obtain ⟨v3, vs3, d3, ds3, p3, q3, rfl, rfl, rfl, h3, r3⟩ := trodAll_cons r2
  obtain ⟨v4, vs4, d4, ds4, p4, q4, rfl, rfl, rfl, h4, r4⟩ := trodAll_cons r3
  obtain ⟨rfl, rfl, rfl⟩ := trodAll_nil r4
  exact ⟨v0, v1, v2, v3, v4, d0, d1, d2, d3, d4, p0, p1, p2, p3, p4, by cases args; simp_all, rfl, by simp, h0, h1, h2, h3, h4⟩
theorem trodAll_mk5 {t0 t1 t2 t3 t4 : TypeId} {v0 v1 v2 v3 v4 : Value} {d0 d1 d2 d3 d4 : DataW H} {p0 p1 p2 p3 p4 : List MemPlace} (h0 : DataW.Trod enc P w base spare held t0 v0 d0 p0) (h1 : DataW.Trod enc P w base spare held t1 v1 d1 p1)
    (h2 : DataW.Trod enc P w base spare held t2 v2 d2 p2) (h3 : DataW.Trod enc P w base spare held t3 v3 d3 p3) (h4 : DataW.Trod enc P w base spare held t4 v4 d4 p4) :
    DataW.TrodAll enc P w base spare held [t0, t1, t2, t3, t4] [v0, v1, v2, v3, v4] [d0, d1, d2, d3, d4] (p0 ++ (p1 ++ (p2 ++ (p3 ++ p4)))) := ⟨p0, _, h0, ⟨p1, _, h1, trodAll_mk3 h2 h3 h4, rfl⟩, rfl⟩
end
end Go.Sx
