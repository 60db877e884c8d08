import Derived.Test.YtpkapjlcmoikoaaSxB
import Derived.Laws.Cells
import Derived.Laws.Entries
import Derived.Laws.IdiomCopy
set_option linter.all false
/-
  Operations that leave the heap as it is: what they yield, and that they do.
-/
namespace Go.Sx
open Go

def SV.one : SV → Bool
  | .int .. | .bool .. | .ptr .. | .sl .. | .mp .. | .yl .. | .fn .. => true
  | .lit v => v.oneCell'
  | .agg _ | .tup _ | .any => false
def SV.cellsO : SV → Option (List SV)
  | .agg l => match l.all SV.one with
    | true => some l
    | false => none
  | s => match s.one with
    | true => some [s]
    | false => none

theorem one_cell {ρ : Rho} {s : SV} {v : Value} (h : SV.R ρ s v) (ho : s.one = true) : v.oneCell' = true := by
  cases s <;> simp only [SV.R, SV.one] at h ho
  · subst h; rfl
  · subst h; rfl
  · subst h; exact ho
  · obtain ⟨_, p, _, rfl⟩ := h; rfl
  · obtain ⟨_, _, op, oa, c, _, rfl, _⟩ := h; rfl
  · obtain ⟨p, _, _, _, rfl⟩ := h; rfl
  · obtain ⟨p, _, rfl⟩ := h; rfl
  · obtain ⟨x, y, rfl, _⟩ := h; rfl
  · cases ho
  · cases ho
  · cases ho
theorem cells_of_one {v : Value} (h : v.oneCell' = true) : v.cells = #[v] := by
  cases v <;> simp_all [Value.oneCell', Value.cells]
theorem cellsO_R {ρ : Rho} {s : SV} {v : Value} {l : List SV} (h : SV.R ρ s v) (hc : s.cellsO = some l) : SV.RL ρ l v.cells.toList ∧ ∀ x ∈ l, x.one = true := by
  by_cases ha : ∃ m, s = .agg m
  · obtain ⟨m, rfl⟩ := ha
    simp only [SV.cellsO] at hc
    split at hc
    · rename_i hall
      cases hc
      simp only [SV.R] at h
      obtain ⟨x, rfl, hx⟩ := h
      exact ⟨hx, by simpa using hall⟩
    · cases hc
  · have h1 : s.one = true ∧ l = [s] := by
      cases s <;> simp_all [SV.cellsO] <;> (try (split at hc <;> simp_all [SV.one]))
    obtain ⟨h1, rfl⟩ := h1
    rw [cells_of_one (one_cell h h1)]
    exact ⟨by simp [SV.RL, h], by simp [h1]⟩
theorem RL_one {ρ : Rho} : ∀ {l : List SV} {r : List Value}, SV.RL ρ l r → (∀ x ∈ l, SV.one x = true) → ∀ v ∈ r, v.oneCell' = true
  | [], [], _, _, v, hv => by simp at hv
  | s :: l, x :: r, h, ho, v, hv => by
    simp only [SV.RL] at h
    rcases List.mem_cons.1 hv with e | hv
    · subst e; exact one_cell h.1 (ho s (by simp))
    · exact RL_one h.2 (fun y hy => ho y (by simp [hy])) v hv
  | [], _ :: _, h, _, _, _ => by simp [SV.RL] at h
  | _ :: _, [], h, _, _, _ => by simp [SV.RL] at h

def ofConst0 : Value → SV
  | .int k n => .int k (.lit n)
  | .bool b => .bool (.bl b)
  | v => .lit v
def ofConst : Value → SV
  | .agg cs => .agg (cs.toList.map ofConst0)
  | v => ofConst0 v
theorem ofConst0_R (ρ : Rho) (v : Value) : SV.R ρ (ofConst0 v) v := by
  cases v <;> simp [ofConst0, SV.R]
theorem map_ofConst0_R (ρ : Rho) : ∀ l : List Value, SV.RL ρ (l.map ofConst0) l
  | [] => by simp [SV.RL]
  | v :: r => by simp only [List.map_cons, SV.RL]; exact ⟨ofConst0_R ρ v, map_ofConst0_R ρ r⟩
theorem ofConst_R (ρ : Rho) (v : Value) : SV.R ρ (ofConst v) v := by
  cases v with
  | agg cs => simp only [ofConst, SV.R]; exact ⟨_, rfl, map_ofConst0_R ρ _⟩
  | _ => simp [ofConst, ofConst0, SV.R]

def getT : List SV → Nat → SV
  | [], _ => .any
  | a :: _, 0 => a
  | _ :: r, n+1 => getT r n
theorem getT_eq : ∀ (l : List SV) (n : Nat), getT l n = l.getD n .any
  | [], n => by simp [getT]
  | a :: _, 0 => by simp [getT]
  | _ :: r, n+1 => by simp [getT, getT_eq r n]
def setT : List SV → Nat → SV → List SV
  | [], _, _ => []
  | _ :: r, 0, v => v :: r
  | a :: r, n+1, v => a :: setT r n v
theorem setT_eq : ∀ (l : List SV) (n : Nat) (v : SV), setT l n v = l.set n v
  | [], n, v => by simp [setT]
  | a :: _, 0, v => by simp [setT]
  | _ :: r, n+1, v => by simp [setT, setT_eq r n v]

def ev (ts : List SV) : Operand → SV
  | .tmp t => getT ts t
  | .const v => ofConst v
  | .func f => .fn (.func f) [] []
  | .global _ => .any
def RO (ρ : Rho) (f : Operand → SV) (g : Operand → Value) : Prop := ∀ x, SV.R ρ (f x) (g x)
theorem ev_R {ρ : Rho} {ts : List SV} {a : Act} (h : SV.RL ρ ts a.tmps.toList) : RO ρ (ev ts) a.eval := by
  intro x
  cases x with
  | tmp t =>
    simp only [ev, Act.eval, getT_eq]
    cases hs : ts[t]? with
    | none => simp only [List.getD, hs, Option.getD_none, SV.R]
    | some s =>
      obtain ⟨v, hv, hr⟩ := RL_get h t s hs
      simp only [List.getD, hs, Option.getD_some]
      have : a.tmps.getD t undef = v := by simp at hv; simp [hv]
      rw [this]; exact hr
  | const v => exact ofConst_R ρ v
  | func f => simp only [ev, Act.eval, SV.R]; exact ⟨#[], #[], rfl, by simp [SV.RL], by simp [SV.RL]⟩
  | global g => simp only [ev, SV.R]

/-! ### reading objects -/
def take? (l : List SV) (m n : Nat) : Option (List SV) :=
  match Nat.ble (m + n) l.length with
  | true => some ((l.drop m).take n)
  | false => none
def Ob.gets (o : Ob) (off : Off) (n : Nat) : Option (List E × List SV) :=
  match o with
  | .cells _ vs => match off with
    | .c m => match take? vs m n with
      | some l => some ([], l)
      | none => none
    | .ix .. => none
  | .row _ k m F => match off with
    | .ix i k' j => match Nat.beq k k', Nat.ble (j + n) k with
      | true, true => some ([cmp' .lss i m], (List.range n).map fun q => F (j + q) i)
      | _, _ => none
    | .c q => match Nat.blt 0 k, Nat.ble (q % k + n) k with
      | true, true => some ([cmp' .lss (.lit (q / k : Nat)) m], (List.range n).map fun r => F (q % k + r) (.lit (q / k : Nat)))
      | true, false => match m with
        | .lit N => match Nat.ble (q + n) (N.toNat * k) with
          | true => some ([], (List.range n).map fun r => F ((q + r) % k) (.lit ((q + r) / k : Nat)))
          | false => none
        | _ => none
      | _, _ => none
  | _ => none

def astOk (l : List E) : Prop := ∀ e ∈ l, e.b = true

theorem RL_take_drop {ρ : Rho} {l : List SV} {r : List Value} (h : SV.RL ρ l r) (m n : Nat) : SV.RL ρ ((l.drop m).take n) ((r.drop m).take n) := by
  refine RL_of_get (by simp [RL_length h]) fun i s v h1 h2 => ?_
  simp only [List.getElem?_take, List.getElem?_drop] at h1 h2
  split at h1 <;> split at h2 <;> simp_all
  obtain ⟨x, hx, hr⟩ := RL_get h _ _ h1
  rw [h2] at hx; cases hx
  exact hr

theorem gets_R {ρ : Rho} {w : World} {o : Ob} {p : Pl} {off : Off} {n : Nat} {asr : List E} {vs : List SV} (ho : o.R ρ w (some p)) (hp : off.pos)
    (h : o.gets off n = some (asr, vs)) (ha : astOk asr) :
    ∃ xs, xs.length = n ∧ (∀ q x, xs[q]? = some x → w.cell? ((p.a.add off.n).add q) = some x ∧ x.oneCell' = true) ∧ SV.RL ρ vs xs := by
  -- cell by cell
  suffices hh : vs.length = n ∧ ∀ q s, vs[q]? = some s → ∃ x, w.cell? (p.a.add (off.n + q)) = some x ∧ x.oneCell' = true ∧ SV.R ρ s x by
    obtain ⟨hl, hh⟩ := hh
    have hex : ∀ q : Nat, ∃ x, q < n → (w.cell? (p.a.add (off.n + q)) = some x ∧ x.oneCell' = true) ∧ SV.R ρ (vs.getD q .any) x := fun q => by
      by_cases hq : q < n
      · obtain ⟨x, h1, hone, h2⟩ := hh q (vs[q]'(by omega)) (List.getElem?_eq_getElem (by omega))
        exact ⟨x, fun _ => ⟨⟨h1, hone⟩, by simpa [List.getD, List.getElem?_eq_getElem (show q < vs.length by omega)] using h2⟩⟩
      · exact ⟨undef, fun h => absurd h hq⟩
    obtain ⟨f, hf⟩ := Classical.axiomOfChoice hex
    refine ⟨(List.range n).map f, by simp, fun q x hx => ?_, RL_of_get (by simp [hl]) fun q s v h1 h2 => ?_⟩
    · simp only [List.getElem?_map] at hx
      by_cases hq : q < n
      · simp [hq] at hx
        subst hx
        rw [Addr.add_add']
        exact (hf q hq).1
      · simp [hq] at hx
    · have hq : q < n := by
        rcases Nat.lt_or_ge q vs.length with h3 | h3
        · omega
        · rw [List.getElem?_eq_none h3] at h1; cases h1
      simp [hq] at h2
      subst h2
      have := (hf q hq).2
      simpa [h1] using this
  cases o with
  | cells t cs =>
    obtain ⟨p', hp', _, hc⟩ := ho
    cases hp'
    simp only [Ob.gets] at h
    split at h
    · rename_i m
      split at h
      · rename_i l hl
        cases h
        simp only [take?] at hl
        split at hl
        · rename_i hle
          cases hl
          have hle' := Nat.le_of_ble_eq_true hle
          refine ⟨by simp; omega, fun q s hs => ?_⟩
          simp only [List.getElem?_take, List.getElem?_drop] at hs
          split at hs
          · obtain ⟨x, h1, hone, h2⟩ := hc _ _ hs
            exact ⟨x, h1, hone, h2⟩
          · cases hs
        · cases hl
      · cases h
    · cases h
  | row t k m F =>
    obtain ⟨hm0, hc⟩ := ho
    simp only [Ob.gets] at h
    split at h
    · rename_i i k' j
      split at h
      · rename_i hk hj
        cases h
        have hk := Nat.eq_of_beq_eq_true hk
        subst hk
        have hj := Nat.le_of_ble_eq_true hj
        have hlt : i.i < m.i := by simpa [cmpD] using ha (cmp' .lss i m) (by simp)
        simp only [Off.pos] at hp
        refine ⟨by simp, fun q s hs => ?_⟩
        simp only [List.getElem?_map] at hs
        by_cases hq : q < n
        · simp [hq] at hs
          subst hs
          obtain ⟨p', x, hp', h1, hone, h2⟩ := hc i (j + q) hp hlt (by omega)
          cases hp'
          exact ⟨x, by simp only [Off.n, Nat.add_assoc]; exact h1, hone, h2⟩
        · simp [hq] at hs
      · cases h
    · rename_i q
      split at h
      · rename_i hk hj
        cases h
        have hk : 1 ≤ k := by simpa [Nat.blt] using hk
        have hj := Nat.le_of_ble_eq_true hj
        have hlt : ((q / k : Nat) : Int) < m.i := by
          have := ha (cmp' .lss (.lit (q / k : Nat)) m) (List.mem_singleton.2 rfl)
          rw [cmp'_b] at this
          exact of_decide_eq_true this
        refine ⟨by simp, fun r s hs => ?_⟩
        simp only [List.getElem?_map] at hs
        by_cases hr : r < n
        · simp [hr] at hs
          subst hs
          obtain ⟨p', x, hp', h1, hone, h2⟩ := hc (.lit (q / k : Nat)) (q % k + r) (Int.natCast_nonneg (q / k)) hlt (by omega)
          cases hp'
          refine ⟨x, ?_, hone, h2⟩
          have : (E.lit (q / k : Nat)).i.toNat * k + (q % k + r) = (Off.c q).n + r := by
            simp only [E.i_lit, Off.n, Int.toNat_natCast]
            have := Nat.div_add_mod q k
            rw [Nat.mul_comm] at this
            omega
          rw [← this]; exact h1
        · simp [hr] at hs
      · rename_i hk hj
        have hk : 1 ≤ k := by simpa [Nat.blt] using hk
        split at h
        · rename_i N
          split at h
          · rename_i hle
            cases h
            have hle := Nat.le_of_ble_eq_true hle
            refine ⟨by simp, fun r s hs => ?_⟩
            simp only [List.getElem?_map] at hs
            by_cases hr : r < n
            · simp [hr] at hs
              subst hs
              have hdm := Nat.div_add_mod (q + r) k
              have hmod : (q + r) % k < k := Nat.mod_lt _ hk
              have hlt : (q + r) / k < N.toNat := Nat.div_lt_of_lt_mul (by rw [Nat.mul_comm]; omega)
              obtain ⟨p', x, hp', h1, hone, h2⟩ := hc (.lit ((q + r) / k : Nat)) ((q + r) % k) (Int.natCast_nonneg _) (by simp only [E.i_lit]; clear hdm hmod hc hm0; generalize (q + r) / k = D at hlt ⊢; omega) hmod
              cases hp'
              refine ⟨x, ?_, hone, h2⟩
              have : (E.lit ((q + r) / k : Nat)).i.toNat * k + (q + r) % k = (Off.c q).n + r := by
                simp only [E.i_lit, Off.n, Int.toNat_natCast]
                rw [Nat.mul_comm] at hdm
                omega
              rw [← this]; exact h1
            · simp [hr] at hs
          · cases h
        · cases h
      · cases h
  | loop => cases h
  | dfr => cases h

end Go.Sx
