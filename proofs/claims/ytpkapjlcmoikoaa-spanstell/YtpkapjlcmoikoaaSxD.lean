import Derived.OrdersIn
import Derived.Calls
import Derived.Orders
import Derived.Tactics
import Derived.Laws.World
import Derived.Laws.Sem
import Derived.Laws.AppendOwn
import Derived.Below
import Derived.Laws.Cells
import Derived.Laws.Entries
import Derived.Laws.IdiomCopy
import Derived.Laws.StructEq
import Derived.ChangeKeysEq
set_option linter.all false
/-
  What is looked up of a code ahead of its walk: may the operations of a region that draws be taken as they stand?
-/
namespace Go.Sx
open Go

/-- operations that leave the heap as it is -/
def isQ : Op → Bool
  | .move _ | .assign _ | .pick .. | .build .. | .load .. | .nilCheck _ | .binOp .. | .unOp .. | .convert .. | .makeFunc .. | .slice .. | .fieldAddr .. | .field .. | .indexAddr .. | .index .. | .extract .. => true
  | .call c => match c.callee with
    | .builtin .len | .builtin .min | .builtin .max => true
    | _ => false
  | _ => false
def isPure : Op → Bool
  | .load .. => false
  | op => isQ op
def noSel : Op → Bool
  | .select .. | .defer _ | .go _ => false
  | _ => true
/-- operations that make blocks, or write into one, and call nobody -/
def isNew : Op → Bool
  | .alloc _ | .box .. | .buildSlice .. | .store .. => true
  | .call c => match c.callee with
    | .builtin .append => true
    | _ => false
  | _ => false
/-- may i be taken ahead of o, which does not wait for it? -/
def mayAhead (oi o : Op) : Bool := match isQ o with
  | true => true
  | false => match noSel o, isPure oi, isNew o with
    | true, true, _ => true
    | true, _, true => true
    | _, _, _ => false

/-! ### the check -/
def depE (tbl : List Nat) (m : Nat) : List Edge → Nat
  | [] => m
  | e :: r => match Region.binds .any e with
    | true => depE tbl ((m ||| (1 <<< e.on)) ||| tbl.getD e.on 0) r
    | false => depE tbl m r
def depT : List Oper → List Nat → List Nat
  | [], tbl => tbl
  | o :: r, tbl => depT r (tbl ++ [depE tbl 0 o.after.toList])

/-! ### plans: regions that draw and hold more than quiet operations -/
/-- an operation that may be taken first; one of several that come up; no more of these -/
inductive Plan where
  | done
  | take (i : Nat) (r : Plan)
  | alt (i : Nat) (p q : Plan)
  | stop
/-- does nobody that may come up beside i mind? -/
def freeM (ops : Array Oper) (oi : Oper) (i m : Nat) : List Oper → List Nat → Nat → Bool
  | o :: r, t :: ts, j => match t.testBit i, m.testBit j, Nat.beq i j with
    | true, _, _ => freeM ops oi i m r ts (j + 1)
    | _, true, _ => freeM ops oi i m r ts (j + 1)
    | _, _, true => freeM ops oi i m r ts (j + 1)
    | false, false, false => match oi.apart ops o, mayAhead oi.op o.op with
      | true, true => freeM ops oi i m r ts (j + 1)
      | _, _ => false
  | [], _, _ => true
  | _, [], _ => false
def readyM (m : Nat) : List Edge → Bool
  | [] => true
  | e :: r => match Region.binds .any e, m.testBit e.on with
    | true, false => false
    | _, _ => readyM m r
/-- the first that may be taken -/
def pickM (ops : Array Oper) (tbl : List Nat) (m : Nat) : List Oper → Nat → Option Nat
  | [], _ => none
  | o :: r, i => match m.testBit i, isQ o.op, readyM m o.after.toList with
    | false, true, true => match freeM ops o i m ops.toList tbl 0 with
      | true => some i
      | false => pickM ops tbl m r (i + 1)
    | _, _, _ => pickM ops tbl m r (i + 1)
def upM (m : Nat) : List Oper → Nat → List Nat
  | [], _ => []
  | o :: r, i => match m.testBit i, readyM m o.after.toList with
    | false, true => i :: upM m r (i + 1)
    | _, _ => upM m r (i + 1)
def altsM (f : Nat → Plan) (m : Nat) : List Nat → Plan
  | [] => .stop
  | i :: r => .alt i (f (m ||| (1 <<< i))) (altsM f m r)
def mkPlan (ops : Array Oper) (tbl : List Nat) : Nat → Nat → Plan
  | 0, _ => .done
  | n + 1, m => match pickM ops tbl m ops.toList 0 with
    | some i => .take i (mkPlan ops tbl n (m ||| (1 <<< i)))
    | none => match upM m ops.toList 0 with
      | [] => .done
      | a :: l => altsM (mkPlan ops tbl n) m (a :: l)
def chainHas : Plan → Nat → Bool
  | .alt i _ q, j => match Nat.beq i j with
    | true => true
    | false => chainHas q j
  | _, _ => false
def planOk (ops : Array Oper) (tbl : List Nat) : Plan → Bool → Nat → Nat → Bool
  | .done, head, _, m => match head, upM m ops.toList 0 with
    | true, [] => true
    | _, _ => false
  | .stop, head, _, _ => match head with
    | true => false
    | false => true
  | .take i r, head, k, m => match head, k, ops[i]? with
    | true, k + 1, some o => match m.testBit i, isQ o.op, readyM m o.after.toList, freeM ops o i m ops.toList tbl 0 with
      | false, true, true, true => planOk ops tbl r true k (m ||| (1 <<< i))
      | _, _, _, _ => false
    | _, _, _ => false
  | .alt i p q, head, k, m => match (match head with
      | true => (upM m ops.toList 0).all (chainHas (.alt i p q))
      | false => true), k, ops[i]? with
    | true, k + 1, some o => match m.testBit i, readyM m o.after.toList, planOk ops tbl p true k (m ||| (1 <<< i)) with
      | false, true, true => planOk ops tbl q false (k + 1) m
      | _, _, _ => false
    | _, _, _ => false
def allQ : List Oper → Bool
  | [] => true
  | o :: r => match isQ o.op with
    | true => allQ r
    | false => false
def linP : List Oper → Nat → Plan
  | [], _ => .done
  | _ :: r, i => .take i (linP r (i + 1))
def planOf (ops : Array Oper) : Plan := mkPlan ops (depT ops.toList []) ops.size 0
/-- a region that draws may be walked -/
def regOk (ops : Array Oper) : Bool := match allQ ops.toList with
  | true => planOk ops (depT ops.toList []) (linP ops.toList 0) true ops.size 0
  | false => planOk ops (depT ops.toList []) (planOf ops) true ops.size 0

/-- all regions of a code that draw may be -/
def codeOk : Code → Bool
  | .region _ ops dr => match dr with
    | true => regOk ops
    | false => true
  | .seq a b => match codeOk a with
    | true => codeOk b
    | false => false
  | .cond _ a b => match codeOk a with
    | true => codeOk b
    | false => false
  | .block _ b => codeOk b
  | .loop b => codeOk b
  | .scope b => codeOk b
  | .rangeFunc _ _ a b => match codeOk a with
    | true => codeOk b
    | false => false
  | _ => true

end Go.Sx
/-
  A symbolic executor over the model's weakest preconditions: expressions, values, objects.
-/
namespace Go.Sx
open Go

/-- Symbolic numbers and truths: 'sh', 'bs' hold a number or truth of which nothing is known. -/
inductive E where
  | lit (n : Int) | sh (n : Int)
  | bl (b : Bool) | bs (b : Bool)
  | ar (op : BinOp) (k : IntKind) (a b : E)
  | cmp (op : BinOp) (a b : E)
  | cv (k : IntKind) (a : E)
  | plus (a b : E) | minus (a b : E)
  | not (a : E) | and (a b : E) | or (a b : E) | beq (a b : E)
  | ite (c a b : E)
  | f1 (f : Int → Int) (a : E) | f2 (f : Int → Int → Int) (a b : E) | f3 (f : Int → Int → Int → Int) (a b c : E)
  | g1 (f : Int → Bool) (a : E) | g2 (f : Int → Int → Bool) (a b : E)

/-- Go's operators on numbers of one kind. -/
def arD (op : BinOp) (k : IntKind) (a b : Int) : Int :=
  match op with
  | .add => k.wrap (a + b) | .sub => k.wrap (a - b) | .mul => k.wrap (a * b)
  | .quo => k.wrap (a.tdiv b) | .rem => a.tmod b
  | .and => k.wrap (BitVec.ofInt k.bits a &&& BitVec.ofInt k.bits b).toNat
  | .or => k.wrap (BitVec.ofInt k.bits a ||| BitVec.ofInt k.bits b).toNat
  | .xor => k.wrap (BitVec.ofInt k.bits a ^^^ BitVec.ofInt k.bits b).toNat
  | .andNot => k.wrap (BitVec.ofInt k.bits a &&& ~~~BitVec.ofInt k.bits b).toNat
  | .shl => k.wrap (a * 2 ^ (min b.toNat k.bits))
  | .shr => a.fdiv (2 ^ (min b.toNat k.bits))
  | _ => 0
def cmpD (op : BinOp) (a b : Int) : Bool :=
  match op with
  | .eql => a == b | .neq => a != b | .lss => decide (a < b) | .leq => decide (a ≤ b) | .gtr => decide (a > b) | .geq => decide (a ≥ b)
  | _ => false

def E.d : E → Int × Bool
  | .lit n | .sh n => (n, false)
  | .bl b | .bs b => (0, b)
  | .ar op k a b => (arD op k a.d.1 b.d.1, false)
  | .cmp op a b => (0, cmpD op a.d.1 b.d.1)
  | .cv k a => (k.wrap a.d.1, false)
  | .plus a b => (a.d.1 + b.d.1, false)
  | .minus a b => (a.d.1 - b.d.1, false)
  | .not a => (0, !a.d.2)
  | .and a b => (0, a.d.2 && b.d.2)
  | .or a b => (0, a.d.2 || b.d.2)
  | .beq a b => (0, a.d.2 == b.d.2)
  | .ite c a b => match c.d.2 with | true => a.d | false => b.d
  | .f1 f a => (f a.d.1, false)
  | .f2 f a b => (f a.d.1 b.d.1, false)
  | .f3 f a b c => (f a.d.1 b.d.1 c.d.1, false)
  | .g1 f a => (0, f a.d.1)
  | .g2 f a b => (0, f a.d.1 b.d.1)
def E.i (e : E) : Int := e.d.1
def E.b (e : E) : Bool := e.d.2

section
variable (n : Int) (a b c : E) (k : IntKind) (op : BinOp)
@[simp] theorem E.i_lit : (E.lit n).i = n := rfl
@[simp] theorem E.i_sh : (E.sh n).i = n := rfl
@[simp] theorem E.b_bl (x : Bool) : (E.bl x).b = x := rfl
@[simp] theorem E.b_bs (x : Bool) : (E.bs x).b = x := rfl
@[simp] theorem E.i_ar : (E.ar op k a b).i = arD op k a.i b.i := rfl
@[simp] theorem E.b_cmp : (E.cmp op a b).b = cmpD op a.i b.i := rfl
@[simp] theorem E.i_cv : (E.cv k a).i = k.wrap a.i := rfl
@[simp] theorem E.i_plus : (E.plus a b).i = a.i + b.i := rfl
@[simp] theorem E.i_minus : (E.minus a b).i = a.i - b.i := rfl
@[simp] theorem E.b_not : (E.not a).b = !a.b := rfl
@[simp] theorem E.b_and : (E.and a b).b = (a.b && b.b) := rfl
@[simp] theorem E.b_or : (E.or a b).b = (a.b || b.b) := rfl
@[simp] theorem E.b_beq : (E.beq a b).b = (a.b == b.b) := rfl
@[simp] theorem E.i_ite : (E.ite c a b).i = if c.b = true then a.i else b.i := by
  simp only [E.i, E.b, E.d]; split <;> simp_all
@[simp] theorem E.b_ite : (E.ite c a b).b = if c.b = true then a.b else b.b := by
  simp only [E.b, E.d]; split <;> simp_all
@[simp] theorem E.i_f1 (f : Int → Int) : (E.f1 f a).i = f a.i := rfl
@[simp] theorem E.i_f2 (f : Int → Int → Int) : (E.f2 f a b).i = f a.i b.i := rfl
@[simp] theorem E.i_f3 (f : Int → Int → Int → Int) : (E.f3 f a b c).i = f a.i b.i c.i := rfl
@[simp] theorem E.b_g1 (f : Int → Bool) : (E.g1 f a).b = f a.i := rfl
@[simp] theorem E.b_g2 (f : Int → Int → Bool) : (E.g2 f a b).b = f a.i b.i := rfl
end

/-! ### folding -/
def plus' : E → E → E
  | .lit a, .lit b => .lit (a + b)
  | .lit 0, b => b
  | a, .lit 0 => a
  | a, b => .plus a b
def minus' : E → E → E
  | .lit a, .lit b => .lit (a - b)
  | a, .lit 0 => a
  | a, b => .minus a b
def cmp' (op : BinOp) : E → E → E
  | .lit a, .lit b => .bl (cmpD op a b)
  | a, b => .cmp op a b
def ar' (op : BinOp) (k : IntKind) : E → E → E
  | .lit a, .lit b => .lit (arD op k a b)
  | a, b => .ar op k a b
def not' : E → E
  | .bl b => .bl (!b)
  | e => .not e
def and' : E → E → E
  | .bl true, e => e
  | .bl false, _ => .bl false
  | a, b => .and a b
def cv' (k : IntKind) : E → E
  | .lit n => .lit (k.wrap n)
  | e => .cv k e
def beq' : E → E → E
  | .bl a, .bl b => .bl (a == b)
  | a, b => .beq a b
def ite' (c : E) (a b : E) : E :=
  match c with
  | .bl true => a
  | .bl false => b
  | c => .ite c a b

@[simp] theorem plus'_i (a b : E) : (plus' a b).i = a.i + b.i := by
  unfold plus'; split <;> simp
@[simp] theorem minus'_i (a b : E) : (minus' a b).i = a.i - b.i := by
  unfold minus'; split <;> simp
@[simp] theorem cmp'_b (op : BinOp) (a b : E) : (cmp' op a b).b = cmpD op a.i b.i := by
  unfold cmp'; split <;> simp
@[simp] theorem ar'_i (op : BinOp) (k : IntKind) (a b : E) : (ar' op k a b).i = arD op k a.i b.i := by
  unfold ar'; split <;> simp
@[simp] theorem not'_b (a : E) : (not' a).b = !a.b := by
  unfold not'; split <;> simp
@[simp] theorem and'_b (a b : E) : (and' a b).b = (a.b && b.b) := by
  unfold and'; split <;> simp
@[simp] theorem cv'_i (k : IntKind) (a : E) : (cv' k a).i = k.wrap a.i := by
  unfold cv'; split <;> simp
@[simp] theorem beq'_b (a b : E) : (beq' a b).b = (a.b == b.b) := by
  unfold beq'; split <;> simp
@[simp] theorem ite'_b (c a b : E) : (ite' c a b).b = if c.b = true then a.b else b.b := by
  unfold ite'; split <;> simp
@[simp] theorem ite'_i (c a b : E) : (ite' c a b).i = if c.b = true then a.i else b.i := by
  unfold ite'; split <;> simp

/-- An offset in cells: a number; or element i of k cells each, and j more. -/
inductive Off where
  | c (n : Nat) | ix (i : E) (k j : Nat)
def Off.n : Off → Nat
  | .c n => n
  | .ix i k j => i.i.toNat * k + j
def offAdd : Off → Nat → Off
  | .c n, m => .c (n + m)
  | .ix i k j, m => .ix i k (j + m)
@[simp] theorem offAdd_n (o : Off) (m : Nat) : (offAdd o m).n = o.n + m := by
  cases o <;> simp [offAdd, Off.n]; omega
def offIdx (o : Off) (i : E) (s : Nat) : Option Off :=
  match o with
  | .c n => match i with
    | .lit i => some (.c (n + i.toNat * s))
    | i => some (.ix i s n)
  | .ix st k j => match Nat.beq k s with
    | true => some (.ix (plus' st i) k j)
    | false => none
/-- where an element index is not below 0: of the offset itself -/
def Off.pos : Off → Prop
  | .c _ => True
  | .ix i _ _ => 0 ≤ i.i
theorem offIdx_n {o o' : Off} {i : E} {s : Nat} (h : offIdx o i s = some o') (hi : 0 ≤ i.i) (ho : o.pos) : o'.n = o.n + i.i.toNat * s ∧ o'.pos := by
  unfold offIdx at h
  split at h
  · split at h <;> cases h <;> simp_all [Off.n, Off.pos]
    omega
  · split at h
    · rename_i hk
      cases h
      have := Nat.eq_of_beq_eq_true hk
      subst this
      simp only [Off.pos] at ho
      refine ⟨?_, by simp [Off.pos]; omega⟩
      simp only [Off.n, plus'_i]
      rw [Int.toNat_add ho hi, Nat.add_mul]
      omega
    · cases h

inductive SV where
  | int (k : IntKind) (e : E) | bool (e : E) | lit (v : Value)
  | ptr (h : Nat) (o : Off)
  | sl (h : Nat) (k : Nat) (o : Off) (len : E) (cap : Option E)
  | mp (h : Nat)
  | yl (h : Nat)
  | fn (f : Fn) (first cap : List SV)
  | agg (l : List SV) | tup (l : List SV)
  | any

/-- A place: where it begins; how many cells there are from there on. -/
structure Pl where
  a : Addr
  n : Nat
/-- where a handle lies: none: it has not been given out; some none: an empty row that lies nowhere. -/
structure Rho where
  f : Nat → Option (Option Pl)
  /-- the blocks of the running frame's marks; those of the frames around it -/
  d : List Nat
  o : List Nat
instance : CoeFun Rho (fun _ => Nat → Option (Option Pl)) := ⟨Rho.f⟩

mutual
/-- a symbolic value stands for a value -/
def SV.R (ρ : Rho) : SV → Value → Prop
  | .int k e, v => v = .int k e.i
  | .bool e, v => v = .bool e.b
  | .lit x, v => v = x
  | .ptr h o, v => o.pos ∧ ∃ p, ρ h = some (some p) ∧ v = .pointer (some (p.a.add o.n))
  | .sl h k o len cap, v => o.pos ∧ 0 ≤ len.i ∧ ∃ op oa c, ρ h = some op ∧ v = .slice oa len.i.toNat c ∧ len.i.toNat ≤ c ∧ c ≤ maxLen ∧
      (∀ e, cap = some e → e.i = (c : Int)) ∧ (c ≠ 0 → ∃ p, op = some p ∧ oa = some (p.a.add o.n) ∧ o.n + c * k ≤ p.n)
  | .mp h, v => ∃ p, ρ h = some (some p) ∧ p.a.off = 0 ∧ p.a.spot = none ∧ v = .map (some p.a.block)
  | .yl h, v => ∃ p, ρ h = some (some p) ∧ v = .func (.yield p.a.block) #[] #[]
  | .fn f a b, v => ∃ x y, v = .func f x y ∧ SV.RL ρ a x.toList ∧ SV.RL ρ b y.toList
  | .agg l, v => ∃ x, v = .agg x ∧ SV.RL ρ l x.toList
  | .tup l, v => ∃ x, v = .tuple x ∧ SV.RL ρ l x.toList
  | .any, _ => True
def SV.RL (ρ : Rho) : List SV → List Value → Prop
  | [], [] => True
  | a :: l, v :: r => SV.R ρ a v ∧ SV.RL ρ l r
  | _, _ => False
end

theorem RL_length {ρ : Rho} : ∀ {l : List SV} {r : List Value}, SV.RL ρ l r → l.length = r.length
  | [], [], _ => rfl
  | _ :: l, _ :: r, h => by
    simp only [SV.RL] at h
    simp [RL_length h.2]
  | [], _ :: _, h => by simp [SV.RL] at h
  | _ :: _, [], h => by simp [SV.RL] at h

def Ext (ρ ρ' : Rho) : Prop := ∀ h x, ρ h = some x → ρ' h = some x
theorem Ext.refl (ρ : Rho) : Ext ρ ρ := fun _ _ h => h
theorem Ext.trans {a b c : Rho} (h : Ext a b) (k : Ext b c) : Ext a c := fun i x hi => k i x (h i x hi)

mutual
theorem R_mono {ρ ρ' : Rho} (hx : Ext ρ ρ') : ∀ (s : SV) (v : Value), SV.R ρ s v → SV.R ρ' s v
  | .int .., _, h | .bool .., _, h | .lit .., _, h => by simpa only [SV.R] using h
  | .any, _, _ => by simp only [SV.R]
  | .ptr h o, v, H => by
    simp only [SV.R] at H ⊢
    obtain ⟨hp, a, ha, rfl⟩ := H
    exact ⟨hp, a, hx _ _ ha, rfl⟩
  | .sl h k o len cap, v, H => by
    simp only [SV.R] at H ⊢
    obtain ⟨hp, h0, op, oa, c, ha, r⟩ := H
    exact ⟨hp, h0, op, oa, c, hx _ _ ha, r⟩
  | .mp h, v, H => by
    simp only [SV.R] at H ⊢
    obtain ⟨a, ha, r⟩ := H
    exact ⟨a, hx _ _ ha, r⟩
  | .yl h, v, H => by
    simp only [SV.R] at H ⊢
    obtain ⟨a, ha, r⟩ := H
    exact ⟨a, hx _ _ ha, r⟩
  | .fn f a b, v, H => by
    simp only [SV.R] at H ⊢
    obtain ⟨x, y, rfl, h1, h2⟩ := H
    exact ⟨x, y, rfl, RL_mono hx _ _ h1, RL_mono hx _ _ h2⟩
  | .agg l, v, H => by
    simp only [SV.R] at H ⊢
    obtain ⟨x, rfl, h1⟩ := H
    exact ⟨x, rfl, RL_mono hx _ _ h1⟩
  | .tup l, v, H => by
    simp only [SV.R] at H ⊢
    obtain ⟨x, rfl, h1⟩ := H
    exact ⟨x, rfl, RL_mono hx _ _ h1⟩
theorem RL_mono {ρ ρ' : Rho} (hx : Ext ρ ρ') : ∀ (s : List SV) (v : List Value), SV.RL ρ s v → SV.RL ρ' s v
  | [], [], _ => by simp [SV.RL]
  | a :: l, v :: r, h => by
    simp only [SV.RL] at h ⊢
    exact ⟨R_mono hx a v h.1, RL_mono hx l r h.2⟩
  | [], _ :: _, h => by simp [SV.RL] at h
  | _ :: _, [], h => by simp [SV.RL] at h
end

theorem RL_get {ρ : Rho} : ∀ {l : List SV} {r : List Value}, SV.RL ρ l r → ∀ (i : Nat) (s : SV), l[i]? = some s → ∃ v, r[i]? = some v ∧ SV.R ρ s v
  | a :: l, v :: r, h, 0, s, hs => by
    simp only [SV.RL] at h
    simp at hs
    subst hs
    exact ⟨v, rfl, h.1⟩
  | a :: l, v :: r, h, i+1, s, hs => by
    simp only [SV.RL] at h
    simpa using RL_get h.2 i s (by simpa using hs)
  | [], _, _, i, s, hs => by simp at hs
  | _ :: _, [], h, _, _, _ => by simp [SV.RL] at h

theorem RL_of_get {ρ : Rho} : ∀ {l : List SV} {r : List Value}, l.length = r.length → (∀ (i : Nat) s v, l[i]? = some s → r[i]? = some v → SV.R ρ s v) → SV.RL ρ l r
  | [], [], _, _ => by simp [SV.RL]
  | a :: l, v :: r, h, H => by
    simp only [SV.RL]
    exact ⟨H 0 a v rfl rfl, RL_of_get (by simpa using h) (fun i s x h1 h2 => H (i + 1) s x (by simpa using h1) (by simpa using h2))⟩
  | [], _ :: _, h, _ => by simp at h
  | _ :: _, [], h, _ => by simp at h

theorem RL_append {ρ : Rho} : ∀ {l l' : List SV} {r r' : List Value}, SV.RL ρ l r → SV.RL ρ l' r' → SV.RL ρ (l ++ l') (r ++ r')
  | [], _, [], _, _, h => by simpa using h
  | a :: l, l', v :: r, r', h, h' => by
    simp only [SV.RL, List.cons_append] at h ⊢
    exact ⟨h.1, RL_append h.2 h'⟩
  | [], _, _ :: _, _, h, _ => by simp [SV.RL] at h
  | _ :: _, _, [], _, h, _ => by simp [SV.RL] at h

theorem RL_set {ρ : Rho} {l : List SV} {r : List Value} (h : SV.RL ρ l r) (i : Nat) {s : SV} {v : Value} (hs : SV.R ρ s v) : SV.RL ρ (l.set i s) (r.set i v) := by
  refine RL_of_get (by simp [RL_length h]) fun j s' v' h1 h2 => ?_
  rw [List.getElem?_set] at h1 h2
  split at h1
  · rename_i hij
    subst hij
    have hl := RL_length h
    simp only [if_true] at h1 h2
    split at h1 <;> split at h2
    · cases h1; cases h2; exact hs
    · cases h2
    · cases h1
    · cases h1
  · rename_i hij
    rw [if_neg hij] at h2
    obtain ⟨x, hx, hr⟩ := RL_get h j s' h1
    rw [h2] at hx
    cases hx
    exact hr

end Go.Sx
/-
  Objects of the heap, and when a symbolic heap stands for a world.
-/
namespace Go.Sx
open Go

/-- An object: cells, each known; or a row of n elements of k cells each, cell j of element i being F j i. -/
inductive Ob where
  | cells (t : TypeId) (vs : List SV)
  | row (t : TypeId) (k : Nat) (n : E) (F : Nat → E → SV)
  /-- the record of a loop over a function; the block for its deferred calls, open or shut -/
  | loop (s : LoopState) (pend : Option Code) (tm : List SV) (ps : Array Tmp) (assign body : Code)
  | dfr (opn : Bool)

def Ob.R (ρ : Rho) (w : World) : Ob → Option Pl → Prop
  | .cells _ vs, op => ∃ p, op = some p ∧ vs.length ≤ p.n ∧ ∀ j s, vs[j]? = some s → ∃ x, w.cell? (p.a.add j) = some x ∧ x.oneCell' = true ∧ SV.R ρ s x
  | .row _ k n F, op => (0 ≤ n.i ∧ ∀ p, op = some p → n.i.toNat * k ≤ p.n) ∧ ∀ (e : E) (j : Nat), 0 ≤ e.i → e.i < n.i → j < k → ∃ p x, op = some p ∧ w.cell? (p.a.add (e.i.toNat * k + j)) = some x ∧ x.oneCell' = true ∧ SV.R ρ (F j e) x
  | .loop s pend tm ps assign body, op => ∃ p, op = some p ∧ ∃ fn tmps d, w.heap[p.a.block]? = some (.loop { state := s, pending := pend, fn, tmps, params := ps, assign, body, defers := d }) ∧ SV.RL ρ tm tmps.toList ∧ codeOk assign = true ∧ codeOk body = true
  | .dfr opn, op => ∃ p, op = some p ∧ w.heap[p.a.block]? = some (.deferred (if opn = true then some [] else none))

/-- handle; is it the run's own (may it be written); the object -/
abbrev Heap := List (Nat × Bool × Ob)
def hfind : Heap → Nat → Option (Bool × Ob)
  | [], _ => none
  | (h, x) :: r, g => match Nat.beq h g with
    | true => some x
    | false => hfind r g
def hset : Heap → Nat → Bool × Ob → Heap
  | [], g, x => [(g, x)]
  | (h, y) :: r, g, x => match Nat.beq h g with
    | true => (h, x) :: r
    | false => (h, y) :: hset r g x
def hdel : Heap → Nat → Heap
  | [], _ => []
  | (h, y) :: r, g => match Nat.beq h g with
    | true => hdel r g
    | false => (h, y) :: hdel r g

theorem nbeq (a b : Nat) : Nat.beq a b = decide (a = b) := by
  cases h : Nat.beq a b with
  | true => simp [Nat.eq_of_beq_eq_true h]
  | false => simp [Nat.ne_of_beq_eq_false h]

theorem hfind_cons (h : Nat) (x : Bool × Ob) (r : Heap) (g : Nat) : hfind ((h, x) :: r) g = if h = g then some x else hfind r g := by
  simp only [hfind, nbeq]
  by_cases e : h = g <;> simp [e]
theorem hfind_hset : ∀ (r : Heap) (g : Nat) (x : Bool × Ob) (i : Nat), hfind (hset r g x) i = if g = i then some x else hfind r i
  | [], g, x, i => by simp [hset, hfind_cons, hfind]
  | (h, y) :: r, g, x, i => by
    simp only [hset, nbeq]
    by_cases e : h = g
    · subst e
      simp only [decide_true, hfind_cons]
      split <;> rfl
    · simp only [e, decide_false, hfind_cons, hfind_hset r g x i]
      by_cases e1 : h = i <;> by_cases e2 : g = i <;> simp_all
theorem hfind_hdel : ∀ (r : Heap) (g : Nat) (i : Nat), hfind (hdel r g) i = if g = i then none else hfind r i
  | [], g, i => by simp [hdel, hfind]
  | (h, y) :: r, g, i => by
    simp only [hdel, nbeq]
    by_cases e : h = g
    · subst e
      simp only [decide_true, hfind_cons, hfind_hdel r h i]
      split <;> rfl
    · simp only [e, decide_false, hfind_cons, hfind_hdel r g i]
      by_cases e1 : h = i <;> by_cases e2 : g = i <;> simp_all

/-- what a run stands in: the world at its beginning; which of that world's blocks it may write -/
structure Cx where
  w0 : World
  B : Nat → Prop

/-- the block of a handle that is the run's own: all cells, none frozen, and the place's cells are there -/
def OwnBlock (w : World) (p : Pl) : Prop := ∃ c t, w.heap[p.a.block]? = some (.cells c t (0, 0)) ∧ p.a.off + p.n ≤ c.size ∧ p.a.spot = none

def Ob.own (w : World) (p : Pl) : Ob → Prop
  | .cells .. | .row .. => OwnBlock w p
  | .loop .. | .dfr _ => True
theorem OwnBlock.of_block {w w' : World} {p : Pl} (h : w'.heap[p.a.block]? = w.heap[p.a.block]?) (ho : OwnBlock w p) : OwnBlock w' p := by
  obtain ⟨c, t, h1, h2⟩ := ho
  exact ⟨c, t, by rw [h]; exact h1, h2⟩
theorem Ob.own_of_block {w w' : World} {p : Pl} {o : Ob} (h : w'.heap[p.a.block]? = w.heap[p.a.block]?) (ho : o.own w p) : o.own w' p := by
  cases o with
  | cells t vs => exact OwnBlock.of_block h ho
  | row t k n F => exact OwnBlock.of_block h ho
  | loop => trivial
  | dfr => trivial

/-- the blocks of marks lie as they were made, and no object of the run's own is one of them -/
structure DfrOk (C : Cx) (ρ : Rho) (H : Heap) (w : World) : Prop where
  nd : (ρ.d ++ ρ.o).Nodup
  blk : ∀ b, b ∈ ρ.d ++ ρ.o → w.heap[b]? = some (.deferred (some []))
  own : ∀ b, b ∈ ρ.d ++ ρ.o → C.w0.heap.size ≤ b ∨ C.B b
  sep : ∀ b, b ∈ ρ.d ++ ρ.o → ∀ h own o p, hfind H h = some (own, o) → ρ h = some (some p) → p.a.block ≠ b
structure Rep (C : Cx) (ρ : Rho) (H : Heap) (nx : Nat) (w : World) : Prop where
  obj : ∀ h own o, hfind H h = some (own, o) → ∃ op, ρ h = some op ∧ o.R ρ w op
  own : ∀ h o p, hfind H h = some (true, o) → ρ h = some (some p) → o.own w p ∧ (C.w0.heap.size ≤ p.a.block ∨ C.B p.a.block)
  sep : ∀ h o h' own' o' p p', h ≠ h' → hfind H h = some (true, o) → hfind H h' = some (own', o') → ρ h = some (some p) → ρ h' = some (some p') → p.a.block ≠ p'.a.block
  fresh : ∀ h, nx ≤ h → ρ h = none
  lt : ∀ h p, ρ h = some (some p) → p.a.block < w.heap.size
  size : C.w0.heap.size ≤ w.heap.size
  frame : ∀ b, b < C.w0.heap.size → ¬ C.B b → w.heap[b]? = C.w0.heap[b]?
  os : w.os = C.w0.os
  tape : w.tape = C.w0.tape
  output : w.output = C.w0.output
  dfr : DfrOk C ρ H w

theorem dfr_nil (C : Cx) (f : Nat → Option (Option Pl)) (H : Heap) (w : World) : DfrOk C ⟨f, [], []⟩ H w := ⟨by simp, (fun _ h => by simp at h), (fun _ h => by simp at h), (fun _ h => by simp at h)⟩
theorem hfind_lt {C : Cx} {ρ : Rho} {H : Heap} {nx : Nat} {w : World} (R : Rep C ρ H nx w) {h : Nat} {x : Bool × Ob} (hf : hfind H h = some x) : h < nx := by
  rcases Nat.lt_or_ge h nx with h1 | h1
  · exact h1
  · obtain ⟨op, h2, _⟩ := R.obj h x.1 x.2 hf
    rw [R.fresh h h1] at h2
    cases h2

theorem cell_of_block {w w' : World} {a : Addr} (h : w'.heap[a.block]? = w.heap[a.block]?) : w'.cell? a = w.cell? a := by
  simp only [World.cell?, h]

theorem Addr.add_block (a : Addr) (n : Nat) : (a.add n).block = a.block := by
  simp only [Addr.add]; split <;> rfl
theorem Addr.add_off (a : Addr) (n : Nat) : (a.add n).off = a.off + n := by
  simp only [Addr.add]; split <;> simp_all
theorem Addr.add_spot {a : Addr} (h : a.spot = none) (n : Nat) : (a.add n).spot = none := by
  simp only [Addr.add]; split <;> simp_all
theorem Addr.add_add' (a : Addr) (n m : Nat) : (a.add n).add m = a.add (n + m) := by
  simp only [Addr.add]
  by_cases h1 : n = 0 <;> by_cases h2 : m = 0 <;> simp_all
  omega

theorem Ob.R_of_block {ρ ρ' : Rho} {w w' : World} {o : Ob} {op : Option Pl} (hx : Ext ρ ρ') (hb : ∀ p, op = some p → w'.heap[p.a.block]? = w.heap[p.a.block]?) (h : o.R ρ w op) : o.R ρ' w' op := by
  cases o with
  | cells t vs =>
    obtain ⟨p, rfl, hpn, hc⟩ := h
    refine ⟨p, rfl, hpn, fun j s hs => ?_⟩
    obtain ⟨x, h1, hone, h2⟩ := hc j s hs
    refine ⟨x, ?_, hone, R_mono hx _ _ h2⟩
    rw [cell_of_block (w := w) (by rw [Addr.add_block]; exact hb p rfl)]
    exact h1
  | row t k n F =>
    obtain ⟨h0, hc⟩ := h
    refine ⟨h0, fun e j h1 h2 h3 => ?_⟩
    obtain ⟨p, x, rfl, hcx, hone, hr⟩ := hc e j h1 h2 h3
    refine ⟨p, x, rfl, ?_, hone, R_mono hx _ _ hr⟩
    rw [cell_of_block (w := w) (by rw [Addr.add_block]; exact hb p rfl)]
    exact hcx
  | loop s pend tm ps assign body =>
    obtain ⟨p, rfl, fn, tmps, d, h1, h2⟩ := h
    exact ⟨p, rfl, fn, tmps, d, by rw [hb p rfl]; exact h1, RL_mono hx _ _ h2.1, h2.2⟩
  | dfr opn =>
    obtain ⟨p, rfl, h1⟩ := h
    exact ⟨p, rfl, by rw [hb p rfl]; exact h1⟩

/-- a draw: nothing turns but the count -/
theorem Rep.drew {C : Cx} {ρ : Rho} {H : Heap} {nx : Nat} {w : World} (R : Rep C ρ H nx w) : Rep C ρ H nx { w with drawn := w.drawn + 1 } :=
  ⟨fun h own o hf => let ⟨op, h1, h2⟩ := R.obj h own o hf; ⟨op, h1, Ob.R_of_block (Ext.refl _) (fun _ _ => rfl) h2⟩,
   fun h o p hf hp => let ⟨h1, h2⟩ := R.own h o p hf hp; ⟨Ob.own_of_block (w := w) rfl h1, h2⟩, R.sep, R.fresh, R.lt, R.size, R.frame, R.os, R.tape, R.output, ⟨R.dfr.nd, R.dfr.blk, R.dfr.own, R.dfr.sep⟩⟩

def rset (ρ : Rho) (h : Nat) (x : Option Pl) : Rho := { ρ with f := fun i => if i = h then some x else ρ i }
theorem Ext.rset {ρ : Rho} {h : Nat} (hn : ρ h = none) (x : Option Pl) : Ext ρ (rset ρ h x) := fun i y hi => by
  simp only [Sx.rset]
  split
  · rename_i e; subst e; rw [hn] at hi; cases hi
  · exact hi

theorem heap_alloc_lt (w : World) (o : Obj) (k : Nat) (h : k < w.heap.size) : (w.alloc o).heap[k]? = w.heap[k]? := RowKit.Below.heap_alloc w o k h

theorem block_lt {w : World} {b : Nat} {o : Obj} (h : w.heap[b]? = some o) : b < w.heap.size := by
  rcases Nat.lt_or_ge b w.heap.size with h1 | h1
  · exact h1
  · rw [Array.getElem?_eq_none h1] at h; cases h

theorem cell_lt {w : World} {a : Addr} {x : Value} (h : w.cell? a = some x) : a.block < w.heap.size := World.block_lt_of_cell? _ _ h

/-- where an object with cells lies -/
theorem Ob.R_lt {ρ : Rho} {w : World} {t : TypeId} {vs : List SV} {p : Pl} (h : Ob.R ρ w (.cells t vs) (some p)) (hv : vs ≠ []) : p.a.block < w.heap.size := by
  obtain ⟨q, hq, _, hc⟩ := h
  cases hq
  cases vs with
  | nil => exact absurd rfl hv
  | cons s r =>
    obtain ⟨x, hx, _⟩ := hc 0 s rfl
    have := cell_lt hx
    rwa [Addr.add_block] at this

/-- 'o' may be said of any world whose blocks below 'w''s end are 'w''s -/
theorem Ob.R_grow {ρ ρ' : Rho} {w w' : World} {o : Ob} {op : Option Pl} (hx : Ext ρ ρ') (hb : ∀ b, b < w.heap.size → w'.heap[b]? = w.heap[b]?) (h : o.R ρ w op) : o.R ρ' w' op := by
  cases o with
  | cells t vs =>
    obtain ⟨p, rfl, hpn, hc⟩ := h
    refine ⟨p, rfl, hpn, fun j s hs => ?_⟩
    obtain ⟨x, h1, hone, h2⟩ := hc j s hs
    refine ⟨x, ?_, hone, R_mono hx _ _ h2⟩
    have hl := cell_lt h1
    rw [cell_of_block (w := w) (hb _ hl)]
    exact h1
  | row t k n F =>
    obtain ⟨h0, hc⟩ := h
    refine ⟨h0, fun e j h1 h2 h3 => ?_⟩
    obtain ⟨p, x, rfl, hcx, hone, hr⟩ := hc e j h1 h2 h3
    refine ⟨p, x, rfl, ?_, hone, R_mono hx _ _ hr⟩
    have hl := cell_lt hcx
    rw [cell_of_block (w := w) (hb _ hl)]
    exact hcx
  | loop s pend tm ps assign body =>
    obtain ⟨p, rfl, fn, tmps, d, h1, h2⟩ := h
    exact ⟨p, rfl, fn, tmps, d, by rw [hb _ (block_lt h1)]; exact h1, RL_mono hx _ _ h2.1, h2.2⟩
  | dfr opn =>
    obtain ⟨p, rfl, h1⟩ := h
    exact ⟨p, rfl, by rw [hb _ (block_lt h1)]; exact h1⟩

theorem SV.R_any (ρ : Rho) (v : Value) : SV.R ρ .any v := by simp only [SV.R]

/-- a new block, under the next handle -/
theorem Rep.allocO {C : Cx} {ρ : Rho} {H : Heap} {nx : Nat} {w : World} (R : Rep C ρ H nx w) (x : Obj) (n : Nat) (o : Ob)
    (ho : o.R (rset ρ nx (some ⟨⟨w.heap.size, 0, none⟩, n⟩)) (w.alloc x) (some ⟨⟨w.heap.size, 0, none⟩, n⟩)) (how : o.own (w.alloc x) ⟨⟨w.heap.size, 0, none⟩, n⟩) :
    Rep C (rset ρ nx (some ⟨⟨w.heap.size, 0, none⟩, n⟩)) ((nx, true, o) :: H) (nx + 1) (w.alloc x) := by
  have hn : ρ nx = none := R.fresh nx (Nat.le_refl _)
  have hx := Ext.rset hn (some (⟨⟨w.heap.size, 0, none⟩, n⟩ : Pl))
  have hne : ∀ h p, ρ h = some p → h ≠ nx := fun h p hp e => by subst e; rw [hn] at hp; cases hp
  have old : ∀ h x, hfind H h = some x → h ≠ nx := fun h x hf e => by have := hfind_lt R hf; omega
  have rold : ∀ h, h ≠ nx → rset ρ nx (some ⟨⟨w.heap.size, 0, none⟩, n⟩) h = ρ h := fun h hne => by simp [rset, hne]
  have rnew : rset ρ nx (some ⟨⟨w.heap.size, 0, none⟩, n⟩) nx = some (some ⟨⟨w.heap.size, 0, none⟩, n⟩) := by simp [rset]
  refine ⟨?_, ?_, ?_, ?_, ?_, ?_, ?_, R.os, R.tape, R.output, ⟨R.dfr.nd, fun b hb => ?_, R.dfr.own, fun b hb h own o' p hf hp => ?_⟩⟩
  rotate_left 7
  · have h1 := R.dfr.blk b hb
    rw [heap_alloc_lt _ _ _ (block_lt h1)]
    exact h1
  · have h1 := block_lt (R.dfr.blk b hb)
    rw [hfind_cons] at hf
    split at hf
    · rename_i e; subst e; cases hf
      rw [rnew] at hp; cases hp
      simp only; omega
    · rw [rold h (old h _ hf)] at hp
      exact R.dfr.sep b hb h own o' p hf hp
  · intro h own o' hf
    rw [hfind_cons] at hf
    split at hf
    · rename_i e; subst e; cases hf; exact ⟨_, rnew, ho⟩
    · obtain ⟨op, h1, h2⟩ := R.obj h own o' hf
      exact ⟨op, hx _ _ h1, Ob.R_grow hx (fun b hb => heap_alloc_lt w _ b hb) h2⟩
  · intro h o' p hf hp
    rw [hfind_cons] at hf
    split at hf
    · rename_i e; subst e; cases hf
      rw [rnew] at hp; cases hp
      exact ⟨how, .inl R.size⟩
    · rw [rold h (old h _ hf)] at hp
      obtain ⟨h1, h4⟩ := R.own h o' p hf hp
      exact ⟨Ob.own_of_block (heap_alloc_lt _ _ _ (R.lt h p hp)) h1, h4⟩
  · intro h o1 h' own' o2 p p' hne' hf hf' hp hp'
    rw [hfind_cons] at hf hf'
    split at hf
    · rename_i e; subst e; cases hf
      rw [if_neg hne'] at hf'
      rw [rnew] at hp; cases hp
      rw [rold h' (old h' _ hf')] at hp'
      have := R.lt h' p' hp'
      simp; omega
    · split at hf'
      · rename_i e; subst e; cases hf'
        rw [rnew] at hp'; cases hp'
        rw [rold h (old h _ hf)] at hp
        have := R.lt h p hp
        simp; omega
      · rw [rold h (old h _ hf)] at hp
        rw [rold h' (old h' _ hf')] at hp'
        exact R.sep h o1 h' own' o2 p p' hne' hf hf' hp hp'
  · intro h hh
    rw [rold h (by omega)]
    exact R.fresh h (by omega)
  · intro h p hp
    by_cases e : h = nx
    · subst e; rw [rnew] at hp; cases hp; simp
    · rw [rold h e] at hp
      have := R.lt h p hp
      simp; omega
  · have := R.size; simp; omega
  · intro b hb hB
    rw [heap_alloc_lt _ _ _ (by have := R.size; omega)]
    exact R.frame b hb hB

theorem Rep.alloc {C : Cx} {ρ : Rho} {H : Heap} {nx : Nat} {w : World} (R : Rep C ρ H nx w) (cs : Array Value) (t : TypeId) (o : Ob)
    (ho : o.R (rset ρ nx (some ⟨⟨w.heap.size, 0, none⟩, cs.size⟩)) (w.alloc (.cells cs t)) (some ⟨⟨w.heap.size, 0, none⟩, cs.size⟩)) :
    Rep C (rset ρ nx (some ⟨⟨w.heap.size, 0, none⟩, cs.size⟩)) ((nx, true, o) :: H) (nx + 1) (w.alloc (.cells cs t)) := by
  refine R.allocO (.cells cs t) cs.size o ho ?_
  have : OwnBlock (w.alloc (.cells cs t)) ⟨⟨w.heap.size, 0, none⟩, cs.size⟩ := ⟨cs, t, (by show (w.heap.push _)[w.heap.size]? = _; simp), by simp, rfl⟩
  cases o with
  | cells t vs => exact this
  | row t k n F => exact this
  | loop => trivial
  | dfr => trivial

/-- blocks other than an own one's are as they were: another symbolic object for that handle -/
theorem Rep.write {C : Cx} {ρ : Rho} {H : Heap} {nx : Nat} {w w' : World} (R : Rep C ρ H nx w) {h : Nat} {o o' : Ob} {p : Pl} (hf : hfind H h = some (true, o)) (hp : ρ h = some (some p))
    (hb : ∀ b, b ≠ p.a.block → w'.heap[b]? = w.heap[b]?) (hs : w'.heap.size = w.heap.size) (how : o'.own w' p) (hos : w'.os = w.os) (htape : w'.tape = w.tape) (hout : w'.output = w.output)
    (ho : o'.R ρ w' (some p)) : Rep C ρ (hset H h (true, o')) nx w' := by
  have hown := (R.own h o p hf hp).2
  refine ⟨?_, ?_, ?_, R.fresh, ?_, ?_, ?_, hos.trans R.os, htape.trans R.tape, hout.trans R.output, ⟨R.dfr.nd, fun b hb' => ?_, R.dfr.own, fun b hb' i own x q hi hq => ?_⟩⟩
  rotate_left 6
  · rw [hb b (fun e => R.dfr.sep b hb' h true o p hf hp e.symm)]
    exact R.dfr.blk b hb'
  · rw [hfind_hset] at hi
    split at hi
    · rename_i e; subst e; cases hi
      exact R.dfr.sep b hb' _ true o q hf hq
    · exact R.dfr.sep b hb' i own x q hi hq
  · intro i own x hi
    rw [hfind_hset] at hi
    split at hi
    · rename_i e; subst e; cases hi; exact ⟨_, hp, ho⟩
    · rename_i e
      obtain ⟨op, h1, h2⟩ := R.obj i own x hi
      exact ⟨op, h1, Ob.R_of_block (Ext.refl _) (fun q hq => hb _ (by subst hq; exact fun e2 => R.sep h o i own x p q e hf hi hp h1 e2.symm)) h2⟩
  · intro i x q hi hq
    rw [hfind_hset] at hi
    split at hi
    · rename_i e; subst e; cases hi
      rw [hp] at hq; cases hq
      exact ⟨how, hown⟩
    · rename_i e
      obtain ⟨h1, h4⟩ := R.own i x q hi hq
      exact ⟨Ob.own_of_block (hb _ (fun e2 => R.sep h o i true x p q e hf hi hp hq e2.symm)) h1, h4⟩
  · intro i x i' own' x' q q' hne hi hi' hq hq'
    rw [hfind_hset] at hi hi'
    split at hi <;> split at hi'
    · rename_i e1 e2; exact absurd (e1.symm.trans e2) hne
    · rename_i e1 e2; subst e1; exact R.sep h o i' own' x' q q' hne hf hi' hq hq'
    · rename_i e1 e2; subst e2; cases hi'; exact R.sep i x h true o q q' hne hi hf hq hq'
    · exact R.sep i x i' own' x' q q' hne hi hi' hq hq'
  · intro i q hq; rw [hs]; exact R.lt i q hq
  · rw [hs]; exact R.size
  · intro b hb' hB
    rw [hb b (fun e => by subst e; rcases hown with h1 | h1 <;> first | omega | exact hB h1)]
    exact R.frame b hb' hB

/-- the marks told otherwise -/
theorem Rep.marks {C : Cx} {ρ : Rho} {H : Heap} {nx : Nat} {w : World} (R : Rep C ρ H nx w) (d o : List Nat) (h : (d ++ o).Sublist (ρ.d ++ ρ.o)) : Rep C ⟨ρ.f, d, o⟩ H nx w :=
  have hx : Ext ρ ⟨ρ.f, d, o⟩ := fun _ _ h => h
  ⟨fun i own x hf => let ⟨op, h1, h2⟩ := R.obj i own x hf; ⟨op, h1, Ob.R_of_block hx (fun _ _ => rfl) h2⟩, R.own, R.sep, R.fresh, R.lt, R.size, R.frame, R.os, R.tape, R.output,
   ⟨h.nodup R.dfr.nd, fun b hb => R.dfr.blk b (h.subset hb), fun b hb => R.dfr.own b (h.subset hb), fun b hb => R.dfr.sep b (h.subset hb)⟩⟩
/-- a mark that is made -/
theorem Rep.defer {C : Cx} {ρ : Rho} {H : Heap} {nx : Nat} {w : World} (R : Rep C ρ H nx w) : Rep C ⟨ρ.f, w.heap.size :: ρ.d, ρ.o⟩ H nx (w.alloc (.deferred (some []))) := by
  have hx : Ext ρ ⟨ρ.f, w.heap.size :: ρ.d, ρ.o⟩ := fun _ _ h => h
  have hlt : ∀ b, b ∈ ρ.d ++ ρ.o → b < w.heap.size := fun b hb => block_lt (R.dfr.blk b hb)
  refine ⟨fun i own x hf => ?_, fun i x p hf hp => ?_, R.sep, R.fresh, fun i p hp => ?_, ?_, fun c hc hB => ?_, R.os, R.tape, R.output,
    ⟨List.nodup_cons.2 ⟨fun hb => by have := hlt _ hb; omega, R.dfr.nd⟩, fun c hc => ?_, fun c hc => ?_, fun c hc i own x p hf hp => ?_⟩⟩
  · obtain ⟨op, h1, h2⟩ := R.obj i own x hf
    exact ⟨op, h1, Ob.R_grow hx (fun b hb => heap_alloc_lt w _ b hb) h2⟩
  · obtain ⟨h1, h2⟩ := R.own i x p hf hp
    exact ⟨Ob.own_of_block (heap_alloc_lt _ _ _ (R.lt i p hp)) h1, h2⟩
  · have := R.lt i p hp
    simp; omega
  · have := R.size
    simp; omega
  · rw [heap_alloc_lt _ _ _ (by have := R.size; omega)]
    exact R.frame c hc hB
  · rcases List.mem_cons.1 hc with rfl | hc
    · show (w.heap.push _)[w.heap.size]? = _
      simp
    · have h1 := R.dfr.blk c hc
      rw [heap_alloc_lt _ _ _ (block_lt h1)]
      exact h1
  · rcases List.mem_cons.1 hc with rfl | hc
    · exact .inl R.size
    · exact R.dfr.own c hc
  · rcases List.mem_cons.1 hc with rfl | hc
    · have := R.lt i p hp
      omega
    · exact R.dfr.sep c hc i own x p hf hp
/-- a mark that has been taken -/
theorem Rep.undefer {C : Cx} {ρ : Rho} {H : Heap} {nx : Nat} {w w' : World} (R : Rep C ρ H nx w) {b : Nat} {r : List Nat} (hd : ρ.d = b :: r)
    (hb : ∀ c, c ≠ b → w'.heap[c]? = w.heap[c]?) (hs : w'.heap.size = w.heap.size) (hos : w'.os = w.os) (htape : w'.tape = w.tape) (hout : w'.output = w.output) : Rep C ⟨ρ.f, r, ρ.o⟩ H nx w' := by
  have hx : Ext ρ ⟨ρ.f, r, ρ.o⟩ := fun _ _ h => h
  have hmem : b ∈ ρ.d ++ ρ.o := by rw [hd]; simp
  have hsub : ∀ c, c ∈ r ++ ρ.o → c ∈ ρ.d ++ ρ.o := fun c hc => by rw [hd]; exact List.mem_cons_of_mem _ hc
  have hnd : b ∉ r ++ ρ.o ∧ (r ++ ρ.o).Nodup := by
    have := R.dfr.nd
    rw [hd] at this
    exact List.nodup_cons.1 this
  refine ⟨fun i own x hf => ?_, fun i x p hf hp => ?_, R.sep, R.fresh, fun i p hp => by rw [hs]; exact R.lt i p hp, by rw [hs]; exact R.size, fun c hc hB => ?_, hos.trans R.os, htape.trans R.tape, hout.trans R.output,
    ⟨hnd.2, fun c hc => ?_, fun c hc => R.dfr.own c (hsub c hc), fun c hc => R.dfr.sep c (hsub c hc)⟩⟩
  · obtain ⟨op, h1, h2⟩ := R.obj i own x hf
    exact ⟨op, h1, Ob.R_of_block hx (fun p hp => hb _ (by subst hp; exact R.dfr.sep b hmem i own x p hf h1)) h2⟩
  · obtain ⟨h1, h2⟩ := R.own i x p hf hp
    exact ⟨Ob.own_of_block (hb _ (R.dfr.sep b hmem i true x p hf hp)) h1, h2⟩
  · rw [hb c (fun e => by subst e; rcases R.dfr.own c hmem with h1 | h1 <;> first | omega | exact hB h1)]
    exact R.frame c hc hB
  · rw [hb c (fun e => by subst e; exact hnd.1 hc)]
    exact R.dfr.blk c (hsub c hc)

theorem hfind_cell {C : Cx} {ρ : Rho} {H : Heap} {nx : Nat} {w : World} (R : Rep C ρ H nx w) {h : Nat} {own : Bool} {o : Ob} (hf : hfind H h = some (own, o)) {p : Pl} (hp : ρ h = some (some p)) : o.R ρ w (some p) := by
  obtain ⟨op, h1, h2⟩ := R.obj h own o hf
  rw [hp] at h1; cases h1
  exact h2

end Go.Sx
/-
  Operations that leave the heap as it is: what they yield, and that they do.
-/
namespace Go.Sx
open Go

def SV.one : SV → Bool
  | .int .. | .bool .. | .ptr .. | .sl .. | .mp .. | .yl .. | .fn .. => true
  | .lit v => v.oneCell'
  | .agg _ | .tup _ | .any => false
def SV.cellsO : SV → Option (List SV)
  | .agg l => match l.all SV.one with
    | true => some l
    | false => none
  | s => match s.one with
    | true => some [s]
    | false => none

theorem one_cell {ρ : Rho} {s : SV} {v : Value} (h : SV.R ρ s v) (ho : s.one = true) : v.oneCell' = true := by
  cases s <;> simp only [SV.R, SV.one] at h ho
  · subst h; rfl
  · subst h; rfl
  · subst h; exact ho
  · obtain ⟨_, p, _, rfl⟩ := h; rfl
  · obtain ⟨_, _, op, oa, c, _, rfl, _⟩ := h; rfl
  · obtain ⟨p, _, _, _, rfl⟩ := h; rfl
  · obtain ⟨p, _, rfl⟩ := h; rfl
  · obtain ⟨x, y, rfl, _⟩ := h; rfl
  · cases ho
  · cases ho
  · cases ho
theorem cells_of_one {v : Value} (h : v.oneCell' = true) : v.cells = #[v] := by
  cases v <;> simp_all [Value.oneCell', Value.cells]
theorem cellsO_R {ρ : Rho} {s : SV} {v : Value} {l : List SV} (h : SV.R ρ s v) (hc : s.cellsO = some l) : SV.RL ρ l v.cells.toList ∧ ∀ x ∈ l, x.one = true := by
  by_cases ha : ∃ m, s = .agg m
  · obtain ⟨m, rfl⟩ := ha
    simp only [SV.cellsO] at hc
    split at hc
    · rename_i hall
      cases hc
      simp only [SV.R] at h
      obtain ⟨x, rfl, hx⟩ := h
      exact ⟨hx, by simpa using hall⟩
    · cases hc
  · have h1 : s.one = true ∧ l = [s] := by
      cases s <;> simp_all [SV.cellsO] <;> (try (split at hc <;> simp_all [SV.one]))
    obtain ⟨h1, rfl⟩ := h1
    rw [cells_of_one (one_cell h h1)]
    exact ⟨by simp [SV.RL, h], by simp [h1]⟩
theorem RL_one {ρ : Rho} : ∀ {l : List SV} {r : List Value}, SV.RL ρ l r → (∀ x ∈ l, SV.one x = true) → ∀ v ∈ r, v.oneCell' = true
  | [], [], _, _, v, hv => by simp at hv
  | s :: l, x :: r, h, ho, v, hv => by
    simp only [SV.RL] at h
    rcases List.mem_cons.1 hv with e | hv
    · subst e; exact one_cell h.1 (ho s (by simp))
    · exact RL_one h.2 (fun y hy => ho y (by simp [hy])) v hv
  | [], _ :: _, h, _, _, _ => by simp [SV.RL] at h
  | _ :: _, [], h, _, _, _ => by simp [SV.RL] at h

def ofConst0 : Value → SV
  | .int k n => .int k (.lit n)
  | .bool b => .bool (.bl b)
  | v => .lit v
def ofConst : Value → SV
  | .agg cs => .agg (cs.toList.map ofConst0)
  | v => ofConst0 v
theorem ofConst0_R (ρ : Rho) (v : Value) : SV.R ρ (ofConst0 v) v := by
  cases v <;> simp [ofConst0, SV.R]
theorem map_ofConst0_R (ρ : Rho) : ∀ l : List Value, SV.RL ρ (l.map ofConst0) l
  | [] => by simp [SV.RL]
  | v :: r => by simp only [List.map_cons, SV.RL]; exact ⟨ofConst0_R ρ v, map_ofConst0_R ρ r⟩
theorem ofConst_R (ρ : Rho) (v : Value) : SV.R ρ (ofConst v) v := by
  cases v with
  | agg cs => simp only [ofConst, SV.R]; exact ⟨_, rfl, map_ofConst0_R ρ _⟩
  | _ => simp [ofConst, ofConst0, SV.R]

def getT : List SV → Nat → SV
  | [], _ => .any
  | a :: _, 0 => a
  | _ :: r, n+1 => getT r n
theorem getT_eq : ∀ (l : List SV) (n : Nat), getT l n = l.getD n .any
  | [], n => by simp [getT]
  | a :: _, 0 => by simp [getT]
  | _ :: r, n+1 => by simp [getT, getT_eq r n]
def setT : List SV → Nat → SV → List SV
  | [], _, _ => []
  | _ :: r, 0, v => v :: r
  | a :: r, n+1, v => a :: setT r n v
theorem setT_eq : ∀ (l : List SV) (n : Nat) (v : SV), setT l n v = l.set n v
  | [], n, v => by simp [setT]
  | a :: _, 0, v => by simp [setT]
  | _ :: r, n+1, v => by simp [setT, setT_eq r n v]

def ev (ts : List SV) : Operand → SV
  | .tmp t => getT ts t
  | .const v => ofConst v
  | .func f => .fn (.func f) [] []
  | .global _ => .any
def RO (ρ : Rho) (f : Operand → SV) (g : Operand → Value) : Prop := ∀ x, SV.R ρ (f x) (g x)
theorem ev_R {ρ : Rho} {ts : List SV} {a : Act} (h : SV.RL ρ ts a.tmps.toList) : RO ρ (ev ts) a.eval := by
  intro x
  cases x with
  | tmp t =>
    simp only [ev, Act.eval, getT_eq]
    cases hs : ts[t]? with
    | none => simp only [List.getD, hs, Option.getD_none, SV.R]
    | some s =>
      obtain ⟨v, hv, hr⟩ := RL_get h t s hs
      simp only [List.getD, hs, Option.getD_some]
      have : a.tmps.getD t undef = v := by simp at hv; simp [hv]
      rw [this]; exact hr
  | const v => exact ofConst_R ρ v
  | func f => simp only [ev, Act.eval, SV.R]; exact ⟨#[], #[], rfl, by simp [SV.RL], by simp [SV.RL]⟩
  | global g => simp only [ev, SV.R]

/-! ### reading objects -/
def take? (l : List SV) (m n : Nat) : Option (List SV) :=
  match Nat.ble (m + n) l.length with
  | true => some ((l.drop m).take n)
  | false => none
def Ob.gets (o : Ob) (off : Off) (n : Nat) : Option (List E × List SV) :=
  match o with
  | .cells _ vs => match off with
    | .c m => match take? vs m n with
      | some l => some ([], l)
      | none => none
    | .ix .. => none
  | .row _ k m F => match off with
    | .ix i k' j => match Nat.beq k k', Nat.ble (j + n) k with
      | true, true => some ([cmp' .lss i m], (List.range n).map fun q => F (j + q) i)
      | _, _ => none
    | .c q => match Nat.blt 0 k, Nat.ble (q % k + n) k with
      | true, true => some ([cmp' .lss (.lit (q / k : Nat)) m], (List.range n).map fun r => F (q % k + r) (.lit (q / k : Nat)))
      | true, false => match m with
        | .lit N => match Nat.ble (q + n) (N.toNat * k) with
          | true => some ([], (List.range n).map fun r => F ((q + r) % k) (.lit ((q + r) / k : Nat)))
          | false => none
        | _ => none
      | _, _ => none
  | _ => none

def astOk (l : List E) : Prop := ∀ e ∈ l, e.b = true

theorem RL_take_drop {ρ : Rho} {l : List SV} {r : List Value} (h : SV.RL ρ l r) (m n : Nat) : SV.RL ρ ((l.drop m).take n) ((r.drop m).take n) := by
  refine RL_of_get (by simp [RL_length h]) fun i s v h1 h2 => ?_
  simp only [List.getElem?_take, List.getElem?_drop] at h1 h2
  split at h1 <;> split at h2 <;> simp_all
  obtain ⟨x, hx, hr⟩ := RL_get h _ _ h1
  rw [h2] at hx; cases hx
  exact hr

theorem gets_R {ρ : Rho} {w : World} {o : Ob} {p : Pl} {off : Off} {n : Nat} {asr : List E} {vs : List SV} (ho : o.R ρ w (some p)) (hp : off.pos)
    (h : o.gets off n = some (asr, vs)) (ha : astOk asr) :
    ∃ xs, xs.length = n ∧ (∀ q x, xs[q]? = some x → w.cell? ((p.a.add off.n).add q) = some x ∧ x.oneCell' = true) ∧ SV.RL ρ vs xs := by
  -- cell by cell
  suffices hh : vs.length = n ∧ ∀ q s, vs[q]? = some s → ∃ x, w.cell? (p.a.add (off.n + q)) = some x ∧ x.oneCell' = true ∧ SV.R ρ s x by
    obtain ⟨hl, hh⟩ := hh
    have hex : ∀ q : Nat, ∃ x, q < n → (w.cell? (p.a.add (off.n + q)) = some x ∧ x.oneCell' = true) ∧ SV.R ρ (vs.getD q .any) x := fun q => by
      by_cases hq : q < n
      · obtain ⟨x, h1, hone, h2⟩ := hh q (vs[q]'(by omega)) (List.getElem?_eq_getElem (by omega))
        exact ⟨x, fun _ => ⟨⟨h1, hone⟩, by simpa [List.getD, List.getElem?_eq_getElem (show q < vs.length by omega)] using h2⟩⟩
      · exact ⟨undef, fun h => absurd h hq⟩
    obtain ⟨f, hf⟩ := Classical.axiomOfChoice hex
    refine ⟨(List.range n).map f, by simp, fun q x hx => ?_, RL_of_get (by simp [hl]) fun q s v h1 h2 => ?_⟩
    · simp only [List.getElem?_map] at hx
      by_cases hq : q < n
      · simp [hq] at hx
        subst hx
        rw [Addr.add_add']
        exact (hf q hq).1
      · simp [hq] at hx
    · have hq : q < n := by
        rcases Nat.lt_or_ge q vs.length with h3 | h3
        · omega
        · rw [List.getElem?_eq_none h3] at h1; cases h1
      simp [hq] at h2
      subst h2
      have := (hf q hq).2
      simpa [h1] using this
  cases o with
  | cells t cs =>
    obtain ⟨p', hp', _, hc⟩ := ho
    cases hp'
    simp only [Ob.gets] at h
    split at h
    · rename_i m
      split at h
      · rename_i l hl
        cases h
        simp only [take?] at hl
        split at hl
        · rename_i hle
          cases hl
          have hle' := Nat.le_of_ble_eq_true hle
          refine ⟨by simp; omega, fun q s hs => ?_⟩
          simp only [List.getElem?_take, List.getElem?_drop] at hs
          split at hs
          · obtain ⟨x, h1, hone, h2⟩ := hc _ _ hs
            exact ⟨x, h1, hone, h2⟩
          · cases hs
        · cases hl
      · cases h
    · cases h
  | row t k m F =>
    obtain ⟨hm0, hc⟩ := ho
    simp only [Ob.gets] at h
    split at h
    · rename_i i k' j
      split at h
      · rename_i hk hj
        cases h
        have hk := Nat.eq_of_beq_eq_true hk
        subst hk
        have hj := Nat.le_of_ble_eq_true hj
        have hlt : i.i < m.i := by simpa [cmpD] using ha (cmp' .lss i m) (by simp)
        simp only [Off.pos] at hp
        refine ⟨by simp, fun q s hs => ?_⟩
        simp only [List.getElem?_map] at hs
        by_cases hq : q < n
        · simp [hq] at hs
          subst hs
          obtain ⟨p', x, hp', h1, hone, h2⟩ := hc i (j + q) hp hlt (by omega)
          cases hp'
          exact ⟨x, by simp only [Off.n, Nat.add_assoc]; exact h1, hone, h2⟩
        · simp [hq] at hs
      · cases h
    · rename_i q
      split at h
      · rename_i hk hj
        cases h
        have hk : 1 ≤ k := by simpa [Nat.blt] using hk
        have hj := Nat.le_of_ble_eq_true hj
        have hlt : ((q / k : Nat) : Int) < m.i := by
          have := ha (cmp' .lss (.lit (q / k : Nat)) m) (List.mem_singleton.2 rfl)
          rw [cmp'_b] at this
          exact of_decide_eq_true this
        refine ⟨by simp, fun r s hs => ?_⟩
        simp only [List.getElem?_map] at hs
        by_cases hr : r < n
        · simp [hr] at hs
          subst hs
          obtain ⟨p', x, hp', h1, hone, h2⟩ := hc (.lit (q / k : Nat)) (q % k + r) (Int.natCast_nonneg (q / k)) hlt (by omega)
          cases hp'
          refine ⟨x, ?_, hone, h2⟩
          have : (E.lit (q / k : Nat)).i.toNat * k + (q % k + r) = (Off.c q).n + r := by
            simp only [E.i_lit, Off.n, Int.toNat_natCast]
            have := Nat.div_add_mod q k
            rw [Nat.mul_comm] at this
            omega
          rw [← this]; exact h1
        · simp [hr] at hs
      · rename_i hk hj
        have hk : 1 ≤ k := by simpa [Nat.blt] using hk
        split at h
        · rename_i N
          split at h
          · rename_i hle
            cases h
            have hle := Nat.le_of_ble_eq_true hle
            refine ⟨by simp, fun r s hs => ?_⟩
            simp only [List.getElem?_map] at hs
            by_cases hr : r < n
            · simp [hr] at hs
              subst hs
              have hdm := Nat.div_add_mod (q + r) k
              have hmod : (q + r) % k < k := Nat.mod_lt _ hk
              have hlt : (q + r) / k < N.toNat := Nat.div_lt_of_lt_mul (by rw [Nat.mul_comm]; omega)
              obtain ⟨p', x, hp', h1, hone, h2⟩ := hc (.lit ((q + r) / k : Nat)) ((q + r) % k) (Int.natCast_nonneg _) (by simp only [E.i_lit]; clear hdm hmod hc hm0; generalize (q + r) / k = D at hlt ⊢; omega) hmod
              cases hp'
              refine ⟨x, ?_, hone, h2⟩
              have : (E.lit ((q + r) / k : Nat)).i.toNat * k + (q + r) % k = (Off.c q).n + r := by
                simp only [E.i_lit, Off.n, Int.toNat_natCast]
                rw [Nat.mul_comm] at hdm
                omega
              rw [← this]; exact h1
            · simp [hr] at hs
          · cases h
        · cases h
      · cases h
  | loop => cases h
  | dfr => cases h

end Go.Sx
/-
  '==' on symbolic values; binary and unary operators.
-/
namespace Go.Sx
open Go

def isAggD : TypeDesc → Bool
  | .struct _ | .array .. => true
  | _ => false
theorem run_isAgg {P : Program} {t : TypeId} {d : TypeDesc} (h : P.underlying t = some d) (w : World) : (isAgg t).run P w = .ok (isAggD d) w := by
  simp only [isAgg, Sem.run_bind, run_underlying h, Result.andThen_ok]
  cases d <;> rfl
theorem run_size {P : Program} {t : TypeId} {i : TypeInfo} (h : P.info? t = some i) (w : World) : (sizeOf t).run P w = .ok i.size w := by
  simp [sizeOf, typeInfo, h]

def partV (P : Program) (t : TypeId) (xs : List SV) (off : Nat) : Option SV :=
  match P.underlying t with
  | none => none
  | some d => match isAggD d with
    | true => match P.info? t with
      | none => none
      | some i => match take? xs off i.size with
        | some l => some (.agg l)
        | none => none
    | false => xs[off]?
theorem take?_some {l m : List SV} {a n : Nat} (h : take? l a n = some m) : m = (l.drop a).take n ∧ a + n ≤ l.length := by
  unfold take? at h
  split at h
  · rename_i hb; cases h; exact ⟨rfl, Nat.le_of_ble_eq_true hb⟩
  · cases h
theorem partV_R {P : Program} {ρ : Rho} {t : TypeId} {xs : List SV} {vs : Array Value} {off : Nat} {s : SV} (h : partV P t xs off = some s) (hR : SV.RL ρ xs vs.toList) :
    ∃ v, SV.R ρ s v ∧ ∀ w, (part t vs off).run P w = .ok v w := by
  unfold partV at h
  split at h
  · cases h
  · rename_i d hd
    split at h
    · rename_i ha
      split at h
      · cases h
      · rename_i i hi
        split at h
        · rename_i l hl
          cases h
          obtain ⟨rfl, hle⟩ := take?_some hl
          refine ⟨.agg (vs.extract off (off + i.size)), ?_, fun w => ?_⟩
          · simp only [SV.R]
            refine ⟨_, rfl, ?_⟩
            have := RL_take_drop hR off i.size
            rwa [show (vs.extract off (off + i.size)).toList = (vs.toList.drop off).take i.size by simp [List.take_drop]]
          · simp [part, run_isAgg hd, ha, run_size hi]
        · cases h
    · rename_i ha
      obtain ⟨v, hv, hr⟩ := RL_get hR off s h
      refine ⟨v, hr, fun w => ?_⟩
      have hv' : vs[off]? = some v := by simpa using hv
      simp [part, run_isAgg hd, ha, hv']

def scalarEq (td : TypeDesc) (x y : SV) : Option E :=
  match td with
  | .bool => match x, y with
    | .bool a, .bool b => some (beq' a b)
    | _, _ => none
  | .int _ => match x, y with
    | .int k a, .int k' b => match decide (k = k') with
      | true => some (cmp' .eql a b)
      | false => none
    | _, _ => none
  | .string => match x, y with
    | .lit (.string a), .lit (.string b) => some (.bl (a.toList == b.toList))
    | _, _ => none
  | .pointer _ => match x, y with
    | .lit (.pointer none), .lit (.pointer none) => some (.bl true)
    | .ptr .., .lit (.pointer none) => some (.bl false)
    | .lit (.pointer none), .ptr .. => some (.bl false)
    | _, _ => none
  | .map .. => match x, y with
    | .lit (.map none), .lit (.map none) => some (.bl true)
    | .mp .., .lit (.map none) => some (.bl false)
    | .lit (.map none), .mp .. => some (.bl false)
    | _, _ => none
  | .func .. => match x, y with
    | .lit .nilFunc, .lit .nilFunc => some (.bl true)
    | .fn .., .lit .nilFunc => some (.bl false)
    | .lit .nilFunc, .fn .. => some (.bl false)
    | _, _ => none
  | _ => none
def eqFs (P : Program) (rec_ : TypeId → SV → SV → Option E) (xs ys : List SV) : List Field → Option E
  | [] => some (.bl true)
  | f :: fs => match decide (f.name = "_") with
    | true => eqFs P rec_ xs ys fs
    | false => match partV P f.type xs f.offset, partV P f.type ys f.offset with
      | some a, some b => match rec_ f.type a b, eqFs P rec_ xs ys fs with
        | some r, some q => some (and' r q)
        | _, _ => none
      | _, _ => none
def eqIs (P : Program) (rec_ : TypeId → SV → SV → Option E) (e : TypeId) (size : Nat) (xs ys : List SV) : List Nat → Option E
  | [] => some (.bl true)
  | i :: is => match partV P e xs (i * size), partV P e ys (i * size) with
    | some a, some b => match rec_ e a b, eqIs P rec_ e size xs ys is with
      | some r, some q => some (and' r q)
      | _, _ => none
    | _, _ => none
def eqV (P : Program) : Nat → TypeId → SV → SV → Option E
  | 0, _, _, _ => none
  | d+1, t, x, y => match P.underlying t with
    | none => none
    | some (.struct fs) => match x, y with
      | .agg xs, .agg ys => match P.stoodInHeld t with
        | true => none
        | false => eqFs P (eqV P d) xs ys fs.toList
      | _, _ => none
    | some (.array n e) => match x, y with
      | .agg xs, .agg ys => match P.info? e with
        | some _ => eqIs P (eqV P d) e (P.cellsOf e) xs ys (List.range n)
        | none => none
      | _, _ => none
    | some td => scalarEq td x y

theorem scalarEq_R {P : Program} {ρ : Rho} {t : TypeId} {td : TypeDesc} (ht : P.underlying t = some td) {x y : SV} {e : E} (h : scalarEq td x y = some e) {vx vy : Value} (hx : SV.R ρ x vx) (hy : SV.R ρ y vy) (D : Nat) (w : World) :
    (Op.equalIn (D + 1) t vx vy).run P w = .ok e.b w := by
  unfold scalarEq at h
  split at h
  · split at h
    · cases h
      simp only [SV.R] at hx hy; subst hx; subst hy
      simp [Op.equalIn, run_underlying ht]
    · cases h
  · split at h
    · split at h
      · rename_i hk
        cases h
        have hk := of_decide_eq_true hk
        subst hk
        simp only [SV.R] at hx hy; subst hx; subst hy
        simp [Op.equalIn, run_underlying ht, cmpD]
      · cases h
    · cases h
  · split at h
    · cases h
      simp only [SV.R] at hx hy; subst hx; subst hy
      rw [run_equalIn_string w D t _ _ ht]; rfl
    · cases h
  · split at h
    all_goals first | (cases h; done) | skip
    · cases h
      simp only [SV.R] at hx hy; subst hx; subst hy
      simp [Op.equalIn, run_underlying ht]
    · cases h
      simp only [SV.R] at hx hy; subst hy
      obtain ⟨_, p, _, rfl⟩ := hx
      simp [Op.equalIn, run_underlying ht]
    · cases h
      simp only [SV.R] at hx hy; subst hx
      obtain ⟨_, p, _, rfl⟩ := hy
      simp [Op.equalIn, run_underlying ht]
  · split at h
    all_goals first | (cases h; done) | skip
    · cases h
      simp only [SV.R] at hx hy; subst hx; subst hy
      simp [Op.equalIn, run_underlying ht]
    · cases h
      simp only [SV.R] at hx hy; subst hy
      obtain ⟨p, _, _, _, rfl⟩ := hx
      simp [Op.equalIn, run_underlying ht]
    · cases h
      simp only [SV.R] at hx hy; subst hx
      obtain ⟨p, _, _, _, rfl⟩ := hy
      simp [Op.equalIn, run_underlying ht]
  · split at h
    all_goals first | (cases h; done) | skip
    · cases h
      simp only [SV.R] at hx hy; subst hx; subst hy
      simp [Op.equalIn, run_underlying ht]
    · cases h
      simp only [SV.R] at hx hy; subst hy
      obtain ⟨_, _, rfl, _⟩ := hx
      simp [Op.equalIn, run_underlying ht]
    · cases h
      simp only [SV.R] at hx hy; subst hx
      obtain ⟨_, _, rfl, _⟩ := hy
      simp [Op.equalIn, run_underlying ht]
  · cases h

theorem eqFs_R {P : Program} {ρ : Rho} {rec_ : TypeId → SV → SV → Option E} {D : Nat}
    (hrec : ∀ t x y e, rec_ t x y = some e → ∀ vx vy, SV.R ρ x vx → SV.R ρ y vy → ∀ w, (Op.equalIn D t vx vy).run P w = .ok e.b w)
    {xs ys : List SV} {vs us : Array Value} (hx : SV.RL ρ xs vs.toList) (hy : SV.RL ρ ys us.toList) : ∀ (fs : List Field) (e : E), eqFs P rec_ xs ys fs = some e → ∀ w, (Op.eqFields D vs us fs).run P w = .ok e.b w
  | [], e, h, w => by cases h; simp [Op.eqFields]
  | f :: fs, e, h, w => by
    simp only [eqFs] at h
    split at h
    · rename_i hn
      have hn := of_decide_eq_true hn
      simp only [Op.eqFields, hn, ne_eq, not_true_eq_false, if_false]
      exact eqFs_R hrec hx hy fs e h w
    · rename_i hn
      have hn := of_decide_eq_false hn
      split at h
      · rename_i a b ha hb
        split at h
        · rename_i r q hr hq
          cases h
          obtain ⟨va, ra, runa⟩ := partV_R ha hx
          obtain ⟨vb, rb, runb⟩ := partV_R hb hy
          have ih := eqFs_R hrec hx hy fs q hq w
          simp only [Op.eqFields, ne_eq, hn, not_false_eq_true, if_true, Sem.run_bind, runa, runb, Result.andThen_ok, hrec _ _ _ _ hr _ _ ra rb, and'_b, Sem.run_ite, Sem.run_pure, ih]
          cases r.b <;> simp
        · cases h
      · cases h

theorem eqIs_R {P : Program} {ρ : Rho} {rec_ : TypeId → SV → SV → Option E} {D : Nat}
    (hrec : ∀ t x y e, rec_ t x y = some e → ∀ vx vy, SV.R ρ x vx → SV.R ρ y vy → ∀ w, (Op.equalIn D t vx vy).run P w = .ok e.b w)
    {xs ys : List SV} {vs us : Array Value} (hx : SV.RL ρ xs vs.toList) (hy : SV.RL ρ ys us.toList) (t : TypeId) (size : Nat) : ∀ (is : List Nat) (e : E), eqIs P rec_ t size xs ys is = some e → ∀ w, (Op.eqItems D t size vs us is).run P w = .ok e.b w
  | [], e, h, w => by cases h; simp [Op.eqItems]
  | i :: is, e, h, w => by
    simp only [eqIs] at h
    split at h
    · rename_i a b ha hb
      split at h
      · rename_i r q hr hq
        cases h
        obtain ⟨va, ra, runa⟩ := partV_R ha hx
        obtain ⟨vb, rb, runb⟩ := partV_R hb hy
        have ih := eqIs_R hrec hx hy t size is q hq w
        simp only [Op.eqItems, Sem.run_bind, runa, runb, Result.andThen_ok, hrec _ _ _ _ hr _ _ ra rb, and'_b, Sem.run_ite, Sem.run_pure, ih]
        cases r.b <;> simp
      · cases h
    · cases h

theorem eqV_R {P : Program} {ρ : Rho} : ∀ (d : Nat) (t : TypeId) (x y : SV) (e : E), eqV P d t x y = some e → ∀ D, d ≤ D → ∀ vx vy, SV.R ρ x vx → SV.R ρ y vy → ∀ w, (Op.equalIn D t vx vy).run P w = .ok e.b w
  | 0, _, _, _, _, h, _, _, _, _, _, _, _ => by simp [eqV] at h
  | d+1, t, x, y, e, h, D, hD, vx, vy, hx, hy, w => by
    obtain ⟨D, rfl⟩ : ∃ k, D = k + 1 := ⟨D - 1, by omega⟩
    have ih : ∀ t x y e, eqV P d t x y = some e → ∀ vx vy, SV.R ρ x vx → SV.R ρ y vy → ∀ w, (Op.equalIn D t vx vy).run P w = .ok e.b w :=
      fun t x y e h vx vy hx hy w => eqV_R d t x y e h D (by omega) vx vy hx hy w
    simp only [eqV] at h
    split at h
    · cases h
    · rename_i fs ht
      split at h
      · rename_i xs ys
        split at h
        · cases h
        · rename_i hst
          simp only [SV.R] at hx hy
          obtain ⟨vs, rfl, hx⟩ := hx
          obtain ⟨us, rfl, hy⟩ := hy
          have hfs : P.fieldsOf t = fs := by simp [Program.fieldsOf, ht]
          rw [run_equalIn_struct w D t vs us (by rw [hfs]; exact ht) hst, hfs]
          exact eqFs_R ih hx hy _ _ h w
      · cases h
    · rename_i n el ht
      split at h
      · rename_i xs ys
        split at h
        · rename_i i hi
          simp only [SV.R] at hx hy
          obtain ⟨vs, rfl, hx⟩ := hx
          obtain ⟨us, rfl, hy⟩ := hy
          rw [run_equalIn_array w D vs us ht hi]
          exact eqIs_R ih hx hy el _ _ _ h w
        · cases h
      · cases h
    · rename_i td h1 h2 ht
      exact scalarEq_R ht h hx hy D w

end Go.Sx
