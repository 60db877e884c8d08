import Derived.Test.YtpkapjlcmoikoaaSxK
set_option linter.all false
/-
  append, on symbolic slices.
-/
namespace Go.Sx
open Go

/-- the element at which an offset begins -/
def startOf (k : Nat) : Off → Option E
  | .c q => match Nat.beq (q % k) 0 with
    | true => some (.lit (q / k : Nat))
    | false => none
  | .ix st k' j => match Nat.beq k' k, Nat.beq j 0 with
    | true, true => some st
    | _, _ => none
theorem startOf_n {k : Nat} {off : Off} {st : E} (h : startOf k off = some st) (hp : off.pos) : off.n = st.i.toNat * k ∧ 0 ≤ st.i := by
  unfold startOf at h
  split at h
  · rename_i q
    split at h
    · rename_i hq
      cases h
      have hq := Nat.eq_of_beq_eq_true hq
      refine ⟨?_, Int.natCast_nonneg _⟩
      simp only [Off.n, E.i_lit, Int.toNat_natCast]
      have := Nat.div_add_mod q k
      rw [hq, Nat.mul_comm] at this
      omega
    · cases h
  · rename_i st' k' j
    split at h
    · rename_i h1 h2
      cases h
      have h1 := Nat.eq_of_beq_eq_true h1
      have h2 := Nat.eq_of_beq_eq_true h2
      subst h1; subst h2
      exact ⟨by simp [Off.n], hp⟩
    · cases h

def cellsF (k : Nat) (vs : List SV) : Nat → E → SV := fun j i => match i with
  | .lit q => getT vs (q.toNat * k + j)
  | _ => .any
/-- how many elements of k cells an object has, and their cells -/
def Ob.asRow (k : Nat) : Ob → Option (E × (Nat → E → SV))
  | .row _ k' n F => match Nat.beq k' k with
    | true => some (n, F)
    | false => none
  | .cells _ vs => some (.lit (vs.length / k : Nat), cellsF k vs)
  | _ => none
theorem asRow_R {ρ : Rho} {w : World} {ob : Ob} {op : Option Pl} {k : Nat} {n : E} {F : Nat → E → SV} (ho : ob.R ρ w op) (h : ob.asRow k = some (n, F)) (hk : 0 < k) :
    0 ≤ n.i ∧ ∀ (e : E) (j : Nat), 0 ≤ e.i → e.i < n.i → j < k → ∃ p x, op = some p ∧ w.cell? (p.a.add (e.i.toNat * k + j)) = some x ∧ x.oneCell' = true ∧ SV.R ρ (F j e) x := by
  cases ob with
  | row t k' m G =>
    simp only [Ob.asRow] at h
    split at h
    · rename_i hk'
      cases h
      have hk' := Nat.eq_of_beq_eq_true hk'
      subst hk'
      exact ⟨ho.1.1, ho.2⟩
    · cases h
  | cells t vs =>
    cases h
    obtain ⟨p, rfl, _, hc⟩ := ho
    refine ⟨Int.natCast_nonneg _, fun e j h1 h2 h3 => ?_⟩
    have h2' : e.i.toNat < vs.length / k := by
      simp only [E.i_lit] at h2
      omega
    have hl : e.i.toNat * k + j < vs.length := by
      have : (e.i.toNat + 1) * k ≤ vs.length / k * k := Nat.mul_le_mul_right _ h2'
      rw [Nat.add_mul] at this
      have h4 := Nat.div_mul_le_self vs.length k
      omega
    obtain ⟨x, hx, ho, hr⟩ := hc _ _ (List.getElem?_eq_getElem hl)
    refine ⟨p, x, rfl, hx, ho, ?_⟩
    unfold cellsF
    split
    · rw [getT_eq]
      simp only [E.i_lit] at hl hr
      simpa [List.getD, List.getElem?_eq_getElem hl] using hr
    · exact SV.R_any _ _
  | loop => cases h
  | dfr => cases h
theorem asRow_own {w : World} {p : Pl} {ob : Ob} {k : Nat} {x : E × (Nat → E → SV)} (h : ob.asRow k = some x) (ho : ob.own w p) : OwnBlock w p := by
  cases ob with
  | cells t vs => exact ho
  | row t k n F => exact ho
  | loop => cases h
  | dfr => cases h

/-- A slice as a row of its own: what must hold; how many; the cells, if all are known; the cells. -/
structure View where
  ast : List E
  n : E
  lits : Option (List SV)
  F : Nat → E → SV
def litsOf (k : Nat) (ob : Ob) (st n : E) : Option (List SV) :=
  match ob with
  | .cells _ vs => match st, n with
    | .lit a, .lit b => take? vs (a.toNat * k) (b.toNat * k)
    | _, _ => none
  | _ => none
def viewOf (H : Heap) (k : Nat) (s : SV) : Option View :=
  match s with
  | .lit (.slice none 0 0) => some ⟨[], .lit 0, some [], fun _ _ => .any⟩
  | .sl h k' off len _ => match Nat.beq k' k, hfind H h, startOf k off with
    | true, some (_, ob), some st => match ob.asRow k with
      | some (n, F) => some ⟨below .leq (plus' st len) n, len, litsOf k ob st len, fun j e => F j (plus' st e)⟩
      | none => none
    | _, _, _ => none
  | _ => none

def hOf : SV → Option Nat
  | .sl h .. => some h
  | _ => none
/-- what a view says of a slice -/
structure ViewR (P : Program) (ρ : Rho) (k : Nat) (V : View) (v : Value) (w : World) (h : Option Nat) : Prop where
  n0 : 0 ≤ V.n.i
  val : ∃ (oa : Option Addr) (c : Nat) (xs : List Value), v = .slice oa V.n.i.toNat c ∧ V.n.i.toNat ≤ c ∧ c ≤ maxLen ∧ xs.length = V.n.i.toNat * k ∧ (∀ x ∈ xs, x.oneCell' = true) ∧
    (∀ l, V.lits = some l → SV.RL ρ l xs) ∧
    (∀ (e : E) (j : Nat), 0 ≤ e.i → e.i < V.n.i → j < k → ∃ x, xs[e.i.toNat * k + j]? = some x ∧ SV.R ρ (V.F j e) x) ∧
    (∀ w', (∀ g p, h = some g → ρ g = some (some p) → w'.heap[p.a.block]? = w.heap[p.a.block]?) → (Builtin.firstCells k V.n.i.toNat v).run P w' = .ok xs.toArray w') ∧
    (∀ a, oa = some a → ∀ q x, xs[q]? = some x → w.cell? (a.add q) = some x)

theorem viewOf_R {P : Program} {ρ : Rho} {H : Heap} {w : World} (hobj : ∀ h own ob, hfind H h = some (own, ob) → ∃ op, ρ h = some op ∧ ob.R ρ w op) {k : Nat} (hk : 0 < k) {s : SV} {v : Value} {V : View} (h : viewOf H k s = some V) (hs : SV.R ρ s v) (ha : astOk V.ast) :
    ViewR P ρ k V v w (hOf s) := by
  unfold viewOf at h
  split at h
  · cases h
    simp only [SV.R] at hs
    subst hs
    exact ⟨by simp, none, 0, [], rfl, by simp, by simp, by simp, by simp, fun l hl => by cases hl; simp [SV.RL], fun e j h1 h2 => by simp at h2; omega, fun w' _ => rfl, fun a ha => by cases ha⟩
  · rename_i hd k' off len cap
    split at h
    · rename_i own ob st hk' hf hst
      have hk' := Nat.eq_of_beq_eq_true hk'
      subst hk'
      split at h
      · rename_i n F hrow
        cases h
        obtain ⟨op', hop', hob⟩ := hobj _ _ _ hf
        simp only [SV.R] at hs
        obtain ⟨hpos, h0, op, oa, c, hp, rfl, hlc, hcm, hcap, hadr⟩ := hs
        rw [hop'] at hp; cases hp
        obtain ⟨hn0, hrowR⟩ := asRow_R hob hrow hk
        obtain ⟨so, s0⟩ := startOf_n hst hpos
        have hle : st.i + len.i ≤ n.i := by
          have := below_ok ha
          rw [plus'_i] at this
          exact of_decide_eq_true this
        -- the cells, one by one
        have hex : ∀ q : Nat, ∃ x, q < len.i.toNat * k' → ∃ p, op' = some p ∧ w.cell? (p.a.add (off.n + q)) = some x ∧ x.oneCell' = true ∧ ∀ e : E, e.i = ((q / k' : Nat) : Int) → SV.R ρ (F (q % k') (plus' st e)) x := fun q => by
          by_cases hq : q < len.i.toNat * k'
          · have hq1 : q / k' < len.i.toNat := Nat.div_lt_of_lt_mul (by rw [Nat.mul_comm]; exact hq)
            have hq2 := Nat.mod_lt q hk
            have hq3 := Nat.div_add_mod q k'
            rw [Nat.mul_comm] at hq3
            generalize q / k' = d at hq1 hq3 ⊢
            generalize q % k' = r at hq2 hq3 ⊢
            subst hq3
            clear hadr hcap
            obtain ⟨p, x, hp1, hp2, hp3, _⟩ := hrowR (plus' st (.lit (d : Nat))) r (by rw [plus'_i, E.i_lit]; omega) (by rw [plus'_i, E.i_lit]; omega) hq2
            refine ⟨x, fun _ => ⟨p, hp1, ?_, hp3, fun e he => ?_⟩⟩
            · rw [plus'_i, E.i_lit, Int.toNat_add s0 (Int.natCast_nonneg _), Int.toNat_natCast, Nat.add_mul, Nat.add_assoc] at hp2
              rw [so]
              exact hp2
            · obtain ⟨p', x', hp1', hp2', _, hr'⟩ := hrowR (plus' st e) r (by rw [plus'_i, he]; omega) (by rw [plus'_i, he]; omega) hq2
              rw [hp1] at hp1'; cases hp1'
              have : (plus' st e).i = (plus' st (E.lit (d : Nat))).i := by rw [plus'_i, plus'_i, he, E.i_lit]
              rw [this, hp2] at hp2'
              cases hp2'
              exact hr'
          · exact ⟨undef, fun h => absurd h hq⟩
        obtain ⟨φ, hφ⟩ := Classical.axiomOfChoice hex
        have hget : ∀ q, q < len.i.toNat * k' → ((List.range (len.i.toNat * k')).map φ)[q]? = some (φ q) := fun q hq => by simp [hq]
        refine ⟨h0, oa, c, (List.range (len.i.toNat * k')).map φ, rfl, hlc, hcm, by simp, ?_, ?_, ?_, ?_, ?_⟩
        · intro x hx
          obtain ⟨q, hq, rfl⟩ := List.mem_map.1 hx
          obtain ⟨_, _, _, h3, _⟩ := hφ q (List.mem_range.1 hq)
          exact h3
        · intro l hl
          simp only [litsOf] at hl
          split at hl
          · rename_i t vs
            split at hl
            · rename_i a b
              obtain ⟨rfl, hle2⟩ := take?_some hl
              obtain ⟨p, hp1, _, hc⟩ := hob
              simp only [E.i_lit] at so
              refine RL_of_get (by simp; omega) fun q s v h1 h2 => ?_
              simp only [List.getElem?_take, List.getElem?_drop] at h1
              split at h1
              · rename_i hq
                rw [hget q (by simpa using hq)] at h2
                cases h2
                obtain ⟨p', hp1', hcx, _, _⟩ := hφ q (by simpa using hq)
                rw [hp1] at hp1'; cases hp1'
                obtain ⟨x, hx1, _, hx2⟩ := hc _ _ h1
                rw [so] at hcx
                rw [hx1] at hcx
                cases hcx
                exact hx2
              · cases h1
            · cases hl
          · cases hl
        · intro e j h1 h2 h3
          have hq : e.i.toNat * k' + j < len.i.toNat * k' := by
            have : (e.i.toNat + 1) * k' ≤ len.i.toNat * k' := Nat.mul_le_mul_right _ (by have h2' : e.i < len.i := h2; clear hadr hcap; omega)
            rw [Nat.add_mul] at this
            omega
          obtain ⟨_, _, _, _, h4⟩ := hφ _ hq
          refine ⟨_, hget _ hq, ?_⟩
          have e1 : (e.i.toNat * k' + j) / k' = e.i.toNat := by
            rw [Nat.mul_comm, Nat.mul_add_div hk, Nat.div_eq_of_lt h3]; rfl
          have e2 : (e.i.toNat * k' + j) % k' = j := by
            rw [Nat.mul_comm, Nat.mul_add_mod, Nat.mod_eq_of_lt h3]
          rw [e1, e2] at h4
          exact h4 e (by clear hadr hcap; omega)
        · intro w' hw'
          by_cases hz : len.i.toNat * k' = 0
          · simp only [hz, List.range_zero, List.map_nil]
            cases oa with
            | none => rfl
            | some a => simp [Builtin.firstCells, hz, loadCells, loadCellsFrom]
          · have hl0 : len.i.toNat ≠ 0 := fun e => hz (by rw [e, Nat.zero_mul])
            obtain ⟨p, rfl, rfl, _⟩ := hadr (by omega)
            have hb := hw' hd p rfl hop'
            have := run_loadCells_list (P := P) w' (p.a.add off.n) ((List.range (len.i.toNat * k')).map φ) (fun q x hx => by
              have hq : q < len.i.toNat * k' := by
                rcases Nat.lt_or_ge q (len.i.toNat * k') with h | h
                · exact h
                · rw [List.getElem?_eq_none (by simpa using h)] at hx; cases hx
              rw [hget q hq] at hx
              cases hx
              obtain ⟨p', hp', hcx, _, _⟩ := hφ q hq
              cases hp'
              rw [Addr.add_add', cell_of_block (w := w) (by rw [Addr.add_block]; exact hb)]
              exact hcx)
            simp only [List.length_map, List.length_range] at this
            simp only [Builtin.firstCells]
            exact this
        · intro a ha q x hx
          have hq : q < len.i.toNat * k' := by
            rcases Nat.lt_or_ge q (len.i.toNat * k') with h | h
            · exact h
            · rw [List.getElem?_eq_none (by simpa using h)] at hx; cases hx
          rw [hget q hq] at hx
          cases hx
          obtain ⟨p', hp', hcx, _, _⟩ := hφ q hq
          have hl0 : len.i.toNat ≠ 0 := fun e => by rw [e, Nat.zero_mul] at hq; omega
          obtain ⟨p, hp, ho, _⟩ := hadr (by omega)
          rw [hp'] at hp; cases hp
          rw [ha] at ho; cases ho
          rw [Addr.add_add']
          exact hcx
      · cases h
    · cases h
  · cases h

end Go.Sx
