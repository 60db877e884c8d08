import Derived.Test.YtpkapjlcmoikoaaSxZ
import Derived.Calls
import Derived.Orders
import Derived.Tactics
import Derived.Laws.World
import Derived.Laws.Sem
import Derived.Laws.AppendOwn
import Derived.Below
set_option linter.all false
/-
  A symbolic executor over the model's weakest preconditions: expressions, values, objects.
-/
namespace Go.Sx
open Go

/-- Symbolic numbers and truths: 'sh', 'bs' hold a number or truth of which nothing is known. -/
inductive E where
  | lit (n : Int) | sh (n : Int)
  | bl (b : Bool) | bs (b : Bool)
  | ar (op : BinOp) (k : IntKind) (a b : E)
  | cmp (op : BinOp) (a b : E)
  | cv (k : IntKind) (a : E)
  | plus (a b : E) | minus (a b : E)
  | not (a : E) | and (a b : E) | or (a b : E) | beq (a b : E)
  | ite (c a b : E)
  | f1 (f : Int → Int) (a : E) | f2 (f : Int → Int → Int) (a b : E) | f3 (f : Int → Int → Int → Int) (a b c : E)
  | g1 (f : Int → Bool) (a : E) | g2 (f : Int → Int → Bool) (a b : E)

/-- Go's operators on numbers of one kind. -/
def arD (op : BinOp) (k : IntKind) (a b : Int) : Int :=
  match op with
  | .add => k.wrap (a + b) | .sub => k.wrap (a - b) | .mul => k.wrap (a * b)
  | .quo => k.wrap (a.tdiv b) | .rem => a.tmod b
  | .and => k.wrap (BitVec.ofInt k.bits a &&& BitVec.ofInt k.bits b).toNat
  | .or => k.wrap (BitVec.ofInt k.bits a ||| BitVec.ofInt k.bits b).toNat
  | .xor => k.wrap (BitVec.ofInt k.bits a ^^^ BitVec.ofInt k.bits b).toNat
  | .andNot => k.wrap (BitVec.ofInt k.bits a &&& ~~~BitVec.ofInt k.bits b).toNat
  | .shl => k.wrap (a * 2 ^ (min b.toNat k.bits))
  | .shr => a.fdiv (2 ^ (min b.toNat k.bits))
  | _ => 0
def cmpD (op : BinOp) (a b : Int) : Bool :=
  match op with
  | .eql => a == b | .neq => a != b | .lss => decide (a < b) | .leq => decide (a ≤ b) | .gtr => decide (a > b) | .geq => decide (a ≥ b)
  | _ => false

def E.d : E → Int × Bool
  | .lit n | .sh n => (n, false)
  | .bl b | .bs b => (0, b)
  | .ar op k a b => (arD op k a.d.1 b.d.1, false)
  | .cmp op a b => (0, cmpD op a.d.1 b.d.1)
  | .cv k a => (k.wrap a.d.1, false)
  | .plus a b => (a.d.1 + b.d.1, false)
  | .minus a b => (a.d.1 - b.d.1, false)
  | .not a => (0, !a.d.2)
  | .and a b => (0, a.d.2 && b.d.2)
  | .or a b => (0, a.d.2 || b.d.2)
  | .beq a b => (0, a.d.2 == b.d.2)
  | .ite c a b => match c.d.2 with | true => a.d | false => b.d
  | .f1 f a => (f a.d.1, false)
  | .f2 f a b => (f a.d.1 b.d.1, false)
  | .f3 f a b c => (f a.d.1 b.d.1 c.d.1, false)
  | .g1 f a => (0, f a.d.1)
  | .g2 f a b => (0, f a.d.1 b.d.1)
def E.i (e : E) : Int := e.d.1
def E.b (e : E) : Bool := e.d.2

section
variable (n : Int) (a b c : E) (k : IntKind) (op : BinOp)
@[simp] theorem E.i_lit : (E.lit n).i = n := rfl
@[simp] theorem E.i_sh : (E.sh n).i = n := rfl
@[simp] theorem E.b_bl (x : Bool) : (E.bl x).b = x := rfl
@[simp] theorem E.b_bs (x : Bool) : (E.bs x).b = x := rfl
@[simp] theorem E.i_ar : (E.ar op k a b).i = arD op k a.i b.i := rfl
@[simp] theorem E.b_cmp : (E.cmp op a b).b = cmpD op a.i b.i := rfl
@[simp] theorem E.i_cv : (E.cv k a).i = k.wrap a.i := rfl
@[simp] theorem E.i_plus : (E.plus a b).i = a.i + b.i := rfl
@[simp] theorem E.i_minus : (E.minus a b).i = a.i - b.i := rfl
@[simp] theorem E.b_not : (E.not a).b = !a.b := rfl
@[simp] theorem E.b_and : (E.and a b).b = (a.b && b.b) := rfl
@[simp] theorem E.b_or : (E.or a b).b = (a.b || b.b) := rfl
@[simp] theorem E.b_beq : (E.beq a b).b = (a.b == b.b) := rfl
@[simp] theorem E.i_ite : (E.ite c a b).i = if c.b = true then a.i else b.i := by
  simp only [E.i, E.b, E.d]; split <;> simp_all
@[simp] theorem E.b_ite : (E.ite c a b).b = if c.b = true then a.b else b.b := by
  simp only [E.b, E.d]; split <;> simp_all
@[simp] theorem E.i_f1 (f : Int → Int) : (E.f1 f a).i = f a.i := rfl
@[simp] theorem E.i_f2 (f : Int → Int → Int) : (E.f2 f a b).i = f a.i b.i := rfl
@[simp] theorem E.i_f3 (f : Int → Int → Int → Int) : (E.f3 f a b c).i = f a.i b.i c.i := rfl
@[simp] theorem E.b_g1 (f : Int → Bool) : (E.g1 f a).b = f a.i := rfl
@[simp] theorem E.b_g2 (f : Int → Int → Bool) : (E.g2 f a b).b = f a.i b.i := rfl
end

/-! ### folding -/
def plus' : E → E → E
  | .lit a, .lit b => .lit (a + b)
  | .lit 0, b => b
  | a, .lit 0 => a
  | a, b => .plus a b
def minus' : E → E → E
  | .lit a, .lit b => .lit (a - b)
  | a, .lit 0 => a
  | a, b => .minus a b
def cmp' (op : BinOp) : E → E → E
  | .lit a, .lit b => .bl (cmpD op a b)
  | a, b => .cmp op a b
def ar' (op : BinOp) (k : IntKind) : E → E → E
  | .lit a, .lit b => .lit (arD op k a b)
  | a, b => .ar op k a b
def not' : E → E
  | .bl b => .bl (!b)
  | e => .not e
def and' : E → E → E
  | .bl true, e => e
  | .bl false, _ => .bl false
  | a, b => .and a b
def cv' (k : IntKind) : E → E
  | .lit n => .lit (k.wrap n)
  | e => .cv k e
def beq' : E → E → E
  | .bl a, .bl b => .bl (a == b)
  | a, b => .beq a b
def ite' (c : E) (a b : E) : E :=
  match c with
  | .bl true => a
  | .bl false => b
  | c => .ite c a b

@[simp] theorem plus'_i (a b : E) : (plus' a b).i = a.i + b.i := by
  unfold plus'; split <;> simp
@[simp] theorem minus'_i (a b : E) : (minus' a b).i = a.i - b.i := by
  unfold minus'; split <;> simp
@[simp] theorem cmp'_b (op : BinOp) (a b : E) : (cmp' op a b).b = cmpD op a.i b.i := by
  unfold cmp'; split <;> simp
@[simp] theorem ar'_i (op : BinOp) (k : IntKind) (a b : E) : (ar' op k a b).i = arD op k a.i b.i := by
  unfold ar'; split <;> simp
@[simp] theorem not'_b (a : E) : (not' a).b = !a.b := by
  unfold not'; split <;> simp
@[simp] theorem and'_b (a b : E) : (and' a b).b = (a.b && b.b) := by
  unfold and'; split <;> simp
@[simp] theorem cv'_i (k : IntKind) (a : E) : (cv' k a).i = k.wrap a.i := by
  unfold cv'; split <;> simp
@[simp] theorem beq'_b (a b : E) : (beq' a b).b = (a.b == b.b) := by
  unfold beq'; split <;> simp
@[simp] theorem ite'_b (c a b : E) : (ite' c a b).b = if c.b = true then a.b else b.b := by
  unfold ite'; split <;> simp
@[simp] theorem ite'_i (c a b : E) : (ite' c a b).i = if c.b = true then a.i else b.i := by
  unfold ite'; split <;> simp

/-- An offset in cells: a number; or element i of k cells each, and j more. -/
inductive Off where
  | c (n : Nat) | ix (i : E) (k j : Nat)
def Off.n : Off → Nat
  | .c n => n
  | .ix i k j => i.i.toNat * k + j
def offAdd : Off → Nat → Off
  | .c n, m => .c (n + m)
  | .ix i k j, m => .ix i k (j + m)
@[simp] theorem offAdd_n (o : Off) (m : Nat) : (offAdd o m).n = o.n + m := by
  cases o <;> simp [offAdd, Off.n]; omega
def offIdx (o : Off) (i : E) (s : Nat) : Option Off :=
  match o with
  | .c n => match i with
    | .lit i => some (.c (n + i.toNat * s))
    | i => some (.ix i s n)
  | .ix st k j => match Nat.beq k s with
    | true => some (.ix (plus' st i) k j)
    | false => none
/-- where an element index is not below 0: of the offset itself -/
def Off.pos : Off → Prop
  | .c _ => True
  | .ix i _ _ => 0 ≤ i.i
theorem offIdx_n {o o' : Off} {i : E} {s : Nat} (h : offIdx o i s = some o') (hi : 0 ≤ i.i) (ho : o.pos) : o'.n = o.n + i.i.toNat * s ∧ o'.pos := by
  unfold offIdx at h
  split at h
  · split at h <;> cases h <;> simp_all [Off.n, Off.pos]
    omega
  · split at h
    · rename_i hk
      cases h
      have := Nat.eq_of_beq_eq_true hk
      subst this
      simp only [Off.pos] at ho
      refine ⟨?_, by simp [Off.pos]; omega⟩
      simp only [Off.n, plus'_i]
      rw [Int.toNat_add ho hi, Nat.add_mul]
      omega
    · cases h

inductive SV where
  | int (k : IntKind) (e : E) | bool (e : E) | lit (v : Value)
  | ptr (h : Nat) (o : Off)
  | sl (h : Nat) (k : Nat) (o : Off) (len : E) (cap : Option E)
  | mp (h : Nat)
  | yl (h : Nat)
  | fn (f : Fn) (first cap : List SV)
  | agg (l : List SV) | tup (l : List SV)
  | any

/-- A place: where it begins; how many cells there are from there on. -/
structure Pl where
  a : Addr
  n : Nat
/-- where a handle lies: none: it has not been given out; some none: an empty row that lies nowhere. -/
structure Rho where
  f : Nat → Option (Option Pl)
  /-- the blocks of the running frame's marks; those of the frames around it -/
  d : List Nat
  o : List Nat
instance : CoeFun Rho (fun _ => Nat → Option (Option Pl)) := ⟨Rho.f⟩

mutual
/-- a symbolic value stands for a value -/
def SV.R (ρ : Rho) : SV → Value → Prop
  | .int k e, v => v = .int k e.i
  | .bool e, v => v = .bool e.b
  | .lit x, v => v = x
  | .ptr h o, v => o.pos ∧ ∃ p, ρ h = some (some p) ∧ v = .pointer (some (p.a.add o.n))
  | .sl h k o len cap, v => o.pos ∧ 0 ≤ len.i ∧ ∃ op oa c, ρ h = some op ∧ v = .slice oa len.i.toNat c ∧ len.i.toNat ≤ c ∧ c ≤ maxLen ∧
      (∀ e, cap = some e → e.i = (c : Int)) ∧ (c ≠ 0 → ∃ p, op = some p ∧ oa = some (p.a.add o.n) ∧ o.n + c * k ≤ p.n)
  | .mp h, v => ∃ p, ρ h = some (some p) ∧ p.a.off = 0 ∧ p.a.spot = none ∧ v = .map (some p.a.block)
  | .yl h, v => ∃ p, ρ h = some (some p) ∧ v = .func (.yield p.a.block) #[] #[]
  | .fn f a b, v => ∃ x y, v = .func f x y ∧ SV.RL ρ a x.toList ∧ SV.RL ρ b y.toList
  | .agg l, v => ∃ x, v = .agg x ∧ SV.RL ρ l x.toList
  | .tup l, v => ∃ x, v = .tuple x ∧ SV.RL ρ l x.toList
  | .any, _ => True
def SV.RL (ρ : Rho) : List SV → List Value → Prop
  | [], [] => True
  | a :: l, v :: r => SV.R ρ a v ∧ SV.RL ρ l r
  | _, _ => False
end

theorem RL_length {ρ : Rho} : ∀ {l : List SV} {r : List Value}, SV.RL ρ l r → l.length = r.length
  | [], [], _ => rfl
  | _ :: l, _ :: r, h => by
    simp only [SV.RL] at h
    simp [RL_length h.2]
  | [], _ :: _, h => by simp [SV.RL] at h
  | _ :: _, [], h => by simp [SV.RL] at h

def Ext (ρ ρ' : Rho) : Prop := ∀ h x, ρ h = some x → ρ' h = some x
theorem Ext.refl (ρ : Rho) : Ext ρ ρ := fun _ _ h => h
theorem Ext.trans {a b c : Rho} (h : Ext a b) (k : Ext b c) : Ext a c := fun i x hi => k i x (h i x hi)

mutual
theorem R_mono {ρ ρ' : Rho} (hx : Ext ρ ρ') : ∀ (s : SV) (v : Value), SV.R ρ s v → SV.R ρ' s v
  | .int .., _, h | .bool .., _, h | .lit .., _, h => by simpa only [SV.R] using h
  | .any, _, _ => by simp only [SV.R]
  | .ptr h o, v, H => by
    simp only [SV.R] at H ⊢
    obtain ⟨hp, a, ha, rfl⟩ := H
    exact ⟨hp, a, hx _ _ ha, rfl⟩
  | .sl h k o len cap, v, H => by
    simp only [SV.R] at H ⊢
    obtain ⟨hp, h0, op, oa, c, ha, r⟩ := H
    exact ⟨hp, h0, op, oa, c, hx _ _ ha, r⟩
  | .mp h, v, H => by
    simp only [SV.R] at H ⊢
    obtain ⟨a, ha, r⟩ := H
    exact ⟨a, hx _ _ ha, r⟩
  | .yl h, v, H => by
    simp only [SV.R] at H ⊢
    obtain ⟨a, ha, r⟩ := H
    exact ⟨a, hx _ _ ha, r⟩
  | .fn f a b, v, H => by
    simp only [SV.R] at H ⊢
    obtain ⟨x, y, rfl, h1, h2⟩ := H
    exact ⟨x, y, rfl, RL_mono hx _ _ h1, RL_mono hx _ _ h2⟩
  | .agg l, v, H => by
    simp only [SV.R] at H ⊢
    obtain ⟨x, rfl, h1⟩ := H
    exact ⟨x, rfl, RL_mono hx _ _ h1⟩
  | .tup l, v, H => by
    simp only [SV.R] at H ⊢
    obtain ⟨x, rfl, h1⟩ := H
    exact ⟨x, rfl, RL_mono hx _ _ h1⟩
theorem RL_mono {ρ ρ' : Rho} (hx : Ext ρ ρ') : ∀ (s : List SV) (v : List Value), SV.RL ρ s v → SV.RL ρ' s v
  | [], [], _ => by simp [SV.RL]
  | a :: l, v :: r, h => by
    simp only [SV.RL] at h ⊢
    exact ⟨R_mono hx a v h.1, RL_mono hx l r h.2⟩
  | [], _ :: _, h => by simp [SV.RL] at h
  | _ :: _, [], h => by simp [SV.RL] at h
end

theorem RL_get {ρ : Rho} : ∀ {l : List SV} {r : List Value}, SV.RL ρ l r → ∀ (i : Nat) (s : SV), l[i]? = some s → ∃ v, r[i]? = some v ∧ SV.R ρ s v
  | a :: l, v :: r, h, 0, s, hs => by
    simp only [SV.RL] at h
    simp at hs
    subst hs
    exact ⟨v, rfl, h.1⟩
  | a :: l, v :: r, h, i+1, s, hs => by
    simp only [SV.RL] at h
    simpa using RL_get h.2 i s (by simpa using hs)
  | [], _, _, i, s, hs => by simp at hs
  | _ :: _, [], h, _, _, _ => by simp [SV.RL] at h

theorem RL_of_get {ρ : Rho} : ∀ {l : List SV} {r : List Value}, l.length = r.length → (∀ (i : Nat) s v, l[i]? = some s → r[i]? = some v → SV.R ρ s v) → SV.RL ρ l r
  | [], [], _, _ => by simp [SV.RL]
  | a :: l, v :: r, h, H => by
    simp only [SV.RL]
    exact ⟨H 0 a v rfl rfl, RL_of_get (by simpa using h) (fun i s x h1 h2 => H (i + 1) s x (by simpa using h1) (by simpa using h2))⟩
  | [], _ :: _, h, _ => by simp at h
  | _ :: _, [], h, _ => by simp at h

theorem RL_append {ρ : Rho} : ∀ {l l' : List SV} {r r' : List Value}, SV.RL ρ l r → SV.RL ρ l' r' → SV.RL ρ (l ++ l') (r ++ r')
  | [], _, [], _, _, h => by simpa using h
  | a :: l, l', v :: r, r', h, h' => by
    simp only [SV.RL, List.cons_append] at h ⊢
    exact ⟨h.1, RL_append h.2 h'⟩
  | [], _, _ :: _, _, h, _ => by simp [SV.RL] at h
  | _ :: _, _, [], _, h, _ => by simp [SV.RL] at h

theorem RL_set {ρ : Rho} {l : List SV} {r : List Value} (h : SV.RL ρ l r) (i : Nat) {s : SV} {v : Value} (hs : SV.R ρ s v) : SV.RL ρ (l.set i s) (r.set i v) := by
  refine RL_of_get (by simp [RL_length h]) fun j s' v' h1 h2 => ?_
  rw [List.getElem?_set] at h1 h2
  split at h1
  · rename_i hij
    subst hij
    have hl := RL_length h
    simp only [if_true] at h1 h2
    split at h1 <;> split at h2
    · cases h1; cases h2; exact hs
    · cases h2
    · cases h1
    · cases h1
  · rename_i hij
    rw [if_neg hij] at h2
    obtain ⟨x, hx, hr⟩ := RL_get h j s' h1
    rw [h2] at hx
    cases hx
    exact hr

end Go.Sx
