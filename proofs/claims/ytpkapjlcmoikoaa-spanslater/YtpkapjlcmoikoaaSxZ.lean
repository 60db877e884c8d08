import Derived.OrdersIn
set_option linter.all false
/-
  What is looked up of a code ahead of its walk: may the operations of a region that draws be taken as they stand?
-/
namespace Go.Sx
open Go

/-- operations that leave the heap as it is -/
def isQ : Op → Bool
  | .move _ | .assign _ | .pick .. | .build .. | .load .. | .nilCheck _ | .binOp .. | .unOp .. | .convert .. | .makeFunc .. | .slice .. | .fieldAddr .. | .field .. | .indexAddr .. | .index .. | .extract .. => true
  | .call c => match c.callee with
    | .builtin .len | .builtin .min | .builtin .max => true
    | _ => false
  | _ => false
def isPure : Op → Bool
  | .load .. => false
  | op => isQ op
def noSel : Op → Bool
  | .select .. | .defer _ | .go _ => false
  | _ => true
/-- operations that make blocks, or write into one, and call nobody -/
def isNew : Op → Bool
  | .alloc _ | .box .. | .buildSlice .. | .store .. => true
  | .call c => match c.callee with
    | .builtin .append => true
    | _ => false
  | _ => false
/-- may i be taken ahead of o, which does not wait for it? -/
def mayAhead (oi o : Op) : Bool := match isQ o with
  | true => true
  | false => match noSel o, isPure oi, isNew o with
    | true, true, _ => true
    | true, _, true => true
    | _, _, _ => false

/-! ### the check -/
def depE (tbl : List Nat) (m : Nat) : List Edge → Nat
  | [] => m
  | e :: r => match Region.binds .any e with
    | true => depE tbl ((m ||| (1 <<< e.on)) ||| tbl.getD e.on 0) r
    | false => depE tbl m r
def depT : List Oper → List Nat → List Nat
  | [], tbl => tbl
  | o :: r, tbl => depT r (tbl ++ [depE tbl 0 o.after.toList])

/-! ### plans: regions that draw and hold more than quiet operations -/
/-- an operation that may be taken first; one of several that come up; no more of these -/
inductive Plan where
  | done
  | take (i : Nat) (r : Plan)
  | alt (i : Nat) (p q : Plan)
  | stop
/-- does nobody that may come up beside i mind? -/
def freeM (ops : Array Oper) (oi : Oper) (i m : Nat) : List Oper → List Nat → Nat → Bool
  | o :: r, t :: ts, j => match t.testBit i, m.testBit j, Nat.beq i j with
    | true, _, _ => freeM ops oi i m r ts (j + 1)
    | _, true, _ => freeM ops oi i m r ts (j + 1)
    | _, _, true => freeM ops oi i m r ts (j + 1)
    | false, false, false => match oi.apart ops o, mayAhead oi.op o.op with
      | true, true => freeM ops oi i m r ts (j + 1)
      | _, _ => false
  | [], _, _ => true
  | _, [], _ => false
def readyM (m : Nat) : List Edge → Bool
  | [] => true
  | e :: r => match Region.binds .any e, m.testBit e.on with
    | true, false => false
    | _, _ => readyM m r
/-- the first that may be taken -/
def pickM (ops : Array Oper) (tbl : List Nat) (m : Nat) : List Oper → Nat → Option Nat
  | [], _ => none
  | o :: r, i => match m.testBit i, isQ o.op, readyM m o.after.toList with
    | false, true, true => match freeM ops o i m ops.toList tbl 0 with
      | true => some i
      | false => pickM ops tbl m r (i + 1)
    | _, _, _ => pickM ops tbl m r (i + 1)
def upM (m : Nat) : List Oper → Nat → List Nat
  | [], _ => []
  | o :: r, i => match m.testBit i, readyM m o.after.toList with
    | false, true => i :: upM m r (i + 1)
    | _, _ => upM m r (i + 1)
def altsM (f : Nat → Plan) (m : Nat) : List Nat → Plan
  | [] => .stop
  | i :: r => .alt i (f (m ||| (1 <<< i))) (altsM f m r)
def mkPlan (ops : Array Oper) (tbl : List Nat) : Nat → Nat → Plan
  | 0, _ => .done
  | n + 1, m => match pickM ops tbl m ops.toList 0 with
    | some i => .take i (mkPlan ops tbl n (m ||| (1 <<< i)))
    | none => match upM m ops.toList 0 with
      | [] => .done
      | a :: l => altsM (mkPlan ops tbl n) m (a :: l)
def chainHas : Plan → Nat → Bool
  | .alt i _ q, j => match Nat.beq i j with
    | true => true
    | false => chainHas q j
  | _, _ => false
def planOk (ops : Array Oper) (tbl : List Nat) : Plan → Bool → Nat → Nat → Bool
  | .done, head, _, m => match head, upM m ops.toList 0 with
    | true, [] => true
    | _, _ => false
  | .stop, head, _, _ => match head with
    | true => false
    | false => true
  | .take i r, head, k, m => match head, k, ops[i]? with
    | true, k + 1, some o => match m.testBit i, isQ o.op, readyM m o.after.toList, freeM ops o i m ops.toList tbl 0 with
      | false, true, true, true => planOk ops tbl r true k (m ||| (1 <<< i))
      | _, _, _, _ => false
    | _, _, _ => false
  | .alt i p q, head, k, m => match (match head with
      | true => (upM m ops.toList 0).all (chainHas (.alt i p q))
      | false => true), k, ops[i]? with
    | true, k + 1, some o => match m.testBit i, readyM m o.after.toList, planOk ops tbl p true k (m ||| (1 <<< i)) with
      | false, true, true => planOk ops tbl q false (k + 1) m
      | _, _, _ => false
    | _, _, _ => false
def allQ : List Oper → Bool
  | [] => true
  | o :: r => match isQ o.op with
    | true => allQ r
    | false => false
def linP : List Oper → Nat → Plan
  | [], _ => .done
  | _ :: r, i => .take i (linP r (i + 1))
def planOf (ops : Array Oper) : Plan := mkPlan ops (depT ops.toList []) ops.size 0
/-- a region that draws may be walked -/
def regOk (ops : Array Oper) : Bool := match allQ ops.toList with
  | true => planOk ops (depT ops.toList []) (linP ops.toList 0) true ops.size 0
  | false => planOk ops (depT ops.toList []) (planOf ops) true ops.size 0

/-- all regions of a code that draw may be -/
def codeOk : Code → Bool
  | .region _ ops dr => match dr with
    | true => regOk ops
    | false => true
  | .seq a b => match codeOk a with
    | true => codeOk b
    | false => false
  | .cond _ a b => match codeOk a with
    | true => codeOk b
    | false => false
  | .block _ b => codeOk b
  | .loop b => codeOk b
  | .scope b => codeOk b
  | .rangeFunc _ _ a b => match codeOk a with
    | true => codeOk b
    | false => false
  | _ => true

end Go.Sx
