import Derived.Test.YtpkapjlcmoikoaaSpA
import Derived.Test.YtpkapjlcmoikoaaRows
import Derived.ProofKit
import Derived.Deep.Slices
import Derived.Deep.Fields
import Derived.ChangeSame
set_option linter.all false
/-
  From a row's arguments to the symbolic ones: a slice of logs.
-/
namespace Go.Sx
open Go Go.ChangeShapes Go.WideShapes Go.ChangeAt Go.RowKit Go.Deep

section
variable {H : Type} {enc : TypeId × Value → H} {P : Program} {w : World} {base : Nat} {spare : Nat → Bool} {held : Bool}
theorem open_slice_fields {t e : TypeId} {fs : Array Field} {fuel : Nat} {cs : List Value} {x : DataW H × List MemPlace} (ht : P.underlying t = some (.slice e)) (he : P.underlying e = some (.struct fs))
    (hone : oneCellFields P fs = true) (hC : P.cellsOf e = fs.size) (h : DataW.trod enc P w base spare held fuel t cs = some x) :
    (cs = [.slice none 0 0] ∧ x = (.nil, [])) ∨
    ∃ (a : Addr) (len cap m : Nat), cs = [.slice (some a) len cap] ∧ len ≤ cap ∧ cap ≤ maxLen ∧ m = (if spare a.block then cap else len) ∧
      ∀ i, i < m → ∀ (j : Nat) (f : Field), fs[j]? = some f → ∃ (v : Value) (y : DataW H × List MemPlace) (n : Nat), w.cell? (a.add (i * fs.size + j)) = some v ∧ DataW.trod enc P w base spare held n f.type [v] = some y := by
  rcases open_slice ht h with h0 | ⟨a, len, cap, m, n, D, Pl, hcs, hb, hl, hm, hmm, hx, hi⟩
  · exact .inl h0
  · refine .inr ⟨a, len, cap, m, hcs, hl, hm, hmm, fun i him j f hj => ?_⟩
    obtain ⟨cs', hc, ht'⟩ := hi i him
    rw [hC] at hc
    obtain ⟨ys, n', hn', hy, hlen, hyl, hf⟩ := DataW.trod_struct he ht'
    obtain ⟨_, hcl, hat⟩ := World.cells?_some hc
    obtain ⟨ho, hk⟩ := hone_of hone j f hj
    have hjl : j < fs.size := (Array.getElem?_eq_some_iff.1 hj).1
    have hcell := hat j hjl
    have hv : cs'[j]? = some (cs'[j]'(by omega)) := List.getElem?_eq_getElem (by omega)
    have h1 := hf j f hj
    rw [ho, hk] at h1
    have hone' : (cs'.drop j).take 1 = [cs'[j]'(by omega)] := by
      rw [List.drop_eq_getElem_cons (by omega)]
      rfl
    rw [hone'] at h1
    have hys : ys[j]? = some (ys[j]'(by omega)) := List.getElem?_eq_getElem (by omega)
    refine ⟨_, _, n', ?_, h1.trans hys⟩
    rw [← Go.Deep.add_add, hcell, hv]
end

def intAt (w : World) (a : Addr) : Int := match w.cell? a with
  | some (.int _ z) => z
  | _ => 0
theorem intAt_of {w : World} {a : Addr} {k : IntKind} {z : Int} (h : w.cell? a = some (.int k z)) : intAt w a = z := by
  simp only [intAt, h]

def I64 (x : Int) : Prop := -9223372036854775808 ≤ x ∧ x < 9223372036854775808
def I8 (x : Int) : Prop := -128 ≤ x ∧ x < 128
theorem lit_wf {x : Int} (h : (Lit.int .i64 x).wf = true) : I64 x := by
  have h1 : IntKind.i64.min = -9223372036854775808 := rfl
  have h2 : IntKind.i64.max = 9223372036854775807 := rfl
  simp [Lit.wf, h1, h2] at h
  unfold I64
  omega
theorem lit_wf8 {x : Int} (h : (Lit.int .i8 x).wf = true) : I8 x := by
  have h1 : IntKind.i8.min = -128 := rfl
  have h2 : IntKind.i8.max = 127 := rfl
  simp [Lit.wf, h1, h2] at h
  unfold I8
  omega
/-- numbers of their kinds -/
def Ranged (n : Int) (tm core kind fk flat : Int → Int) : Prop := ∀ i, 0 ≤ i → i < n → I64 (tm i) ∧ I64 (core i) ∧ I8 (kind i) ∧ I64 (fk i) ∧ I8 (flat i)
/-- a slice of logs, as it stands at a call -/
theorem open_logs {H : Type} {enc : TypeId × Value → H} {w : World} {held : Bool} {fuel : Nat} {cs : List Value} {x : DataW H × List MemPlace} (h : DataW.trod enc PP w 0 (fun _ => true) held fuel 22 cs = some x) :
    ∃ (oa : Option Addr) (len cap : Nat) (tm core kind fk flat : Int → Int) (op : Option Pl), cs = [.slice oa len cap] ∧ len ≤ cap ∧ cap ≤ maxLen ∧ (cap ≠ 0 → ∃ p, op = some p ∧ oa = some (p.a.add 0) ∧ 0 + cap * 5 ≤ p.n) ∧ (∀ p, op = some p → p.a.block < w.heap.size) ∧
      (∀ p, op = some p → len * 5 ≤ p.n) ∧ Ranged len tm core kind fk flat ∧ ∀ (e : E) (j : Nat), 0 ≤ e.i → e.i < len → j < 5 → ∃ p v, op = some p ∧ w.cell? (p.a.add (e.i.toNat * 5 + j)) = some v ∧ v.oneCell' = true ∧ ∀ ρ, SV.R ρ (rowL tm core kind fk flat j e) v := by
  rcases open_slice_fields (P := PP) (e := 31) (fs := #[_, _, _, _, _]) Go.Proofs.Try.underlying22 Go.Proofs.Try.underlying31 (by kernel_rfl) (by kernel_rfl) h with ⟨hcs, _⟩ | ⟨a, len, cap, m, hcs, hl, hm, hmm, hf⟩
  · exact ⟨none, 0, 0, fun _ => 0, fun _ => 0, fun _ => 0, fun _ => 0, fun _ => 0, none, hcs, Nat.le_refl _, by simp [maxLen], fun h => absurd rfl h, (fun p hp => by cases hp), (fun p hp => by cases hp), (fun i h1 h2 => by omega), (fun e j h1 h2 => by omega)⟩
  · simp only [if_true] at hmm
    subst hmm
    have sz : ∀ {f0 f1 f2 f3 f4 : Field}, (#[f0, f1, f2, f3, f4] : Array Field).size = 5 := fun {_ _ _ _ _} => rfl
    rw [sz] at hf
    by_cases h0 : m = 0
    · subst h0
      have : len = 0 := by omega
      subst this
      exact ⟨some a, 0, 0, fun _ => 0, fun _ => 0, fun _ => 0, fun _ => 0, fun _ => 0, none, hcs, Nat.le_refl _, by simp [maxLen], fun h => absurd rfl h, (fun p hp => by cases hp), (fun p hp => by cases hp), (fun i h1 h2 => by omega), (fun e j h1 h2 => by omega)⟩
    · refine ⟨some a, len, m, fun i => intAt w (a.add (i.toNat * 5 + 0)), fun i => intAt w (a.add (i.toNat * 5 + 1)), fun i => intAt w (a.add (i.toNat * 5 + 2)), fun i => intAt w (a.add (i.toNat * 5 + 3)), fun i => intAt w (a.add (i.toNat * 5 + 4)), some ⟨a, m * 5⟩, hcs, hl, hm,
        fun _ => ⟨⟨a, m * 5⟩, rfl, by simp [Addr.add], by simp⟩, fun p hp => ?_, fun p hp => ?_, fun i h1 h2 => ?_, fun e j h1 h2 h3 => ?_⟩
      · cases hp
        obtain ⟨v, y, n, hc, _⟩ := hf 0 (by omega) 0 _ rfl
        have := cell_lt hc
        rwa [Addr.add_block] at this
      · cases hp
        exact Nat.mul_le_mul_right _ hl
      · have hi : i.toNat < m := by omega
        obtain ⟨v, y, n, hc0, ht⟩ := hf i.toNat hi 0 _ rfl
        obtain ⟨z0, hz, _, w0⟩ := DataW.trod_int Go.Proofs.Try.underlying3 ht
        cases hz
        obtain ⟨v, y, n, hc1, ht⟩ := hf i.toNat hi 1 _ rfl
        obtain ⟨z1, hz, _, w1⟩ := DataW.trod_int Go.Proofs.Try.underlying3 ht
        cases hz
        obtain ⟨v, y, n, hc2, ht⟩ := hf i.toNat hi 2 _ rfl
        obtain ⟨z2, hz, _, w2⟩ := DataW.trod_int Go.Proofs.Try.underlying29 ht
        cases hz
        obtain ⟨v, y, n, hc3, ht⟩ := hf i.toNat hi 3 _ rfl
        obtain ⟨z3, hz, _, w3⟩ := DataW.trod_int Go.Proofs.Try.underlying3 ht
        cases hz
        obtain ⟨v, y, n, hc4, ht⟩ := hf i.toNat hi 4 _ rfl
        obtain ⟨z4, hz, _, w4⟩ := DataW.trod_int Go.Proofs.Try.underlying29 ht
        cases hz
        simp only [intAt_of hc0, intAt_of hc1, intAt_of hc2, intAt_of hc3, intAt_of hc4]
        exact ⟨lit_wf w0, lit_wf w1, lit_wf8 w2, lit_wf w3, lit_wf8 w4⟩
      · have hi : e.i.toNat < m := by omega
        match j, h3 with
        | 0, _ =>
          obtain ⟨v, y, n, hc, ht⟩ := hf e.i.toNat hi 0 _ rfl
          obtain ⟨z, hz, _⟩ := DataW.trod_int Go.Proofs.Try.underlying3 ht
          cases hz
          exact ⟨_, _, rfl, hc, rfl, fun ρ => by simp only [rowL, SV.R, E.i_f1]; rw [intAt_of hc]⟩
        | 1, _ =>
          obtain ⟨v, y, n, hc, ht⟩ := hf e.i.toNat hi 1 _ rfl
          obtain ⟨z, hz, _⟩ := DataW.trod_int Go.Proofs.Try.underlying3 ht
          cases hz
          exact ⟨_, _, rfl, hc, rfl, fun ρ => by simp only [rowL, SV.R, E.i_f1]; rw [intAt_of hc]⟩
        | 2, _ =>
          obtain ⟨v, y, n, hc, ht⟩ := hf e.i.toNat hi 2 _ rfl
          obtain ⟨z, hz, _⟩ := DataW.trod_int Go.Proofs.Try.underlying29 ht
          cases hz
          exact ⟨_, _, rfl, hc, rfl, fun ρ => by simp only [rowL, SV.R, E.i_f1]; rw [intAt_of hc]⟩
        | 3, _ =>
          obtain ⟨v, y, n, hc, ht⟩ := hf e.i.toNat hi 3 _ rfl
          obtain ⟨z, hz, _⟩ := DataW.trod_int Go.Proofs.Try.underlying3 ht
          cases hz
          exact ⟨_, _, rfl, hc, rfl, fun ρ => by simp only [rowL, SV.R, E.i_f1]; rw [intAt_of hc]⟩
        | 4, _ =>
          obtain ⟨v, y, n, hc, ht⟩ := hf e.i.toNat hi 4 _ rfl
          obtain ⟨z, hz, _⟩ := DataW.trod_int Go.Proofs.Try.underlying29 ht
          cases hz
          exact ⟨_, _, rfl, hc, rfl, fun ρ => by simp only [rowL, SV.R, E.i_f1]; rw [intAt_of hc]⟩

/-- the slice itself -/
theorem logs_R {oa : Option Addr} {len cap : Nat} {op : Option Pl} (hl : len ≤ cap) (hm : cap ≤ maxLen) (hp : cap ≠ 0 → ∃ p, op = some p ∧ oa = some (p.a.add 0) ∧ 0 + cap * 5 ≤ p.n) :
    SV.R ⟨fun h => if h = 0 then some op else none, [], []⟩ (.sl 0 5 (.c 0) (.sh len) none) (.slice oa len cap) := by
  simp only [SV.R]
  exact ⟨trivial, by simp, op, oa, cap, rfl, by simp, by simp; exact hl, hm, noCap, fun hc => by simpa [Off.n] using hp hc⟩

/-- the logs at handle 0 -/
theorem rep_logs {w : World} {op : Option Pl} {len : Nat} {tm core kind fk flat : Int → Int} (hlt : ∀ p, op = some p → p.a.block < w.heap.size) (hn : ∀ p, op = some p → len * 5 ≤ p.n)
    (hc : ∀ (e : E) (j : Nat), 0 ≤ e.i → e.i < len → j < 5 → ∃ p v, op = some p ∧ w.cell? (p.a.add (e.i.toNat * 5 + j)) = some v ∧ v.oneCell' = true ∧ ∀ ρ, SV.R ρ (rowL tm core kind fk flat j e) v) :
    Rep ⟨w, fun _ => False⟩ ⟨fun h => if h = 0 then some op else none, [], []⟩ [(0, false, .row 31 5 (.sh len) (rowL tm core kind fk flat))] 1 w := by
  refine ⟨fun h own o hf => ?_, fun h o p hf => ?_, fun h o h' own' o' p p' _ hf => ?_, fun h hh => ?_, fun h p hp => ?_, Nat.le_refl _, fun _ _ _ => rfl, rfl, rfl, rfl, dfr_nil _ _ _ _⟩
  · rw [hfind_cons] at hf
    split at hf
    · rename_i e
      subst e
      cases hf
      refine ⟨op, rfl, ⟨by simp, fun p hp => by simpa using hn p hp⟩, fun e j h1 h2 h3 => ?_⟩
      obtain ⟨p, v, e1, e2, e3, e4⟩ := hc e j h1 (by simpa using h2) h3
      exact ⟨p, v, e1, e2, e3, e4 _⟩
    · cases hf
  · rw [hfind_cons] at hf
    split at hf
    · cases hf
    · cases hf
  · rw [hfind_cons] at hf
    split at hf
    · cases hf
    · cases hf
  · have : h ≠ 0 := by omega
    simp only [if_neg this]
  · simp only at hp
    split at hp
    · cases hp
      exact hlt p rfl
    · cases hp

/-- what a law of logs and more must be shown to do -/
def WalkL (f : FuncId) (more : List SV) : Prop := ∀ (C : Cx) (n : Int) (tm core kind fk flat : Int → Int), 0 ≤ n → n ≤ 9223372036854775807 → Ranged n tm core kind fk flat →
  SndCall PP C f (.sl 0 5 (.c 0) (.sh n) none :: more) [(0, false, .row 31 5 (.sh n) (rowL tm core kind fk flat))] 1 (fun s _ _ => s = .bool (.bl true))

theorem calls_L {f : FuncId} {more : List SV} {vs : List Value} (h : WalkL f more) {w : World} {oa : Option Addr} {len cap : Nat} {tm core kind fk flat : Int → Int} {op : Option Pl} (hl : len ≤ cap) (hm : cap ≤ maxLen) (hp : cap ≠ 0 → ∃ p, op = some p ∧ oa = some (p.a.add 0) ∧ 0 + cap * 5 ≤ p.n)
    (hlt : ∀ p, op = some p → p.a.block < w.heap.size) (hn : ∀ p, op = some p → len * 5 ≤ p.n) (hr : Ranged len tm core kind fk flat)
    (hc : ∀ (e : E) (j : Nat), 0 ≤ e.i → e.i < len → j < 5 → ∃ p v, op = some p ∧ w.cell? (p.a.add (e.i.toNat * 5 + j)) = some v ∧ v.oneCell' = true ∧ ∀ ρ, SV.R ρ (rowL tm core kind fk flat j e) v)
    (hx : ∀ ρ, SV.RL ρ more vs) {args : Array Value} (hargs : args.toList = .slice oa len cap :: vs) : Calls PP f args w fun e w' => e = .returned (.bool true) ∧ Below w.heap.size w w' := by
  refine calls_of (h ⟨w, fun _ => False⟩ len tm core kind fk flat (Int.natCast_nonneg _) (by unfold maxLen at hm; omega) hr) ?_ (rep_logs hlt hn hc) fun s v H' nx' ρ' w' hs hr hrep => ?_
  · rw [hargs]
    simp only [SV.RL]
    exact ⟨logs_R hl hm hp, hx _⟩
  · subst hs
    simp only [SV.R, E.b_bl] at hr
    subst hr
    exact ⟨rfl, hrep.os, hrep.tape, hrep.output, hrep.size, fun k hk => hrep.frame k hk (fun x => x)⟩
end Go.Sx
