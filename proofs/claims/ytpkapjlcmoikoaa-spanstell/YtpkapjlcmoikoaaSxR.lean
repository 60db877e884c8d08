import Derived.Test.YtpkapjlcmoikoaaSxMc
import Derived.Shelf.Abstract
import Derived.RangeFuncLeaves
set_option linter.all false
/-
  The runner: what it asks.
-/
namespace Go.Sx
open Go

structure St where
  tmps : List SV
  heap : Heap
  nx : Nat
  mks : List Nat

inductive Ex where
  | normal
  | exit (id : Nat)
  | ret
def Ex.to : Ex → Exit
  | .normal => .normal
  | .exit id => .exit id
  | .ret => .ret

inductive Stuck : String → Prop
inductive StuckN : Nat → Prop
structure Br (c : E) (A B : Prop) : Prop where
  t : c.b = true → A
  f : c.b = false → B
structure Both (A B : Prop) : Prop where
  l : A
  r : B
structure Ast (c : E) (A : Prop) : Prop where
  t : c.b = true
  f : A

/-! ### what is meant -/
/-- what a frame has deferred: the marks of its loops over functions -/
def Marks (ρ : Rho) (ds : List Deferred) : Prop := ds = ρ.d.map fun b => { target := .collected b, args := #[] }

structure Sim (C : Cx) (ρ : Rho) (st : St) (a : Act) (w : World) : Prop where
  tm : SV.RL ρ st.tmps a.tmps.toList
  rep : Rep C ρ st.heap st.nx w
  mks : Marks ρ a.defers
def RoOk (ρ : Rho) : Option Nat → Option Nat → Prop
  | none, none => True
  | some h, some l => ∃ p, ρ h = some (some p) ∧ p.a.block = l
  | _, _ => False
theorem RoOk.mono {ρ ρ' : Rho} (hx : Ext ρ ρ') {rh ro : Option Nat} (h : RoOk ρ rh ro) : RoOk ρ' rh ro := by
  cases rh <;> cases ro <;> simp only [RoOk] at h ⊢
  obtain ⟨p, h1, h2⟩ := h
  exact ⟨p, hx _ _ h1, h2⟩

/-- where a run ends, seen from where it began -/
def Ends (C : Cx) (ρ : Rho) (nx : Nat) (k : Ex → St → Prop) (Q : Exit → Act → World → Prop) : Prop :=
  ∀ e st' ρ' a' w', k e st' → Sim C ρ' st' a' w' → Agree ρ ρ' nx → nx ≤ st'.nx → Q e.to a' w'
def Snd (P : Program) (C : Cx) (rh : Option Nat) (c : Code) (st : St) (k : Ex → St → Prop) : Prop :=
  ∀ ρ a w Q ro, RoOk ρ rh ro → Sim C ρ st a w → Ends C ρ st.nx k Q → c.wpIn (FW ro) 0 P Q a w

/-- a loop, from the head of a round on -/
def LoopW (F : Fence) (P : Program) (c : Code) (Q : Exit → Act → World → Prop) (a : Act) (w : World) : Prop :=
  ∀ (b : Frame) (k : List Item) (cs : List Frame), b.roundOf = F.round → F.fn b.fn → F.room (cs.length + 1 + 0) →
    ∃ e a' w', Q e a' w' ∧ ArrivesIn (Machine.fenced P F) P (lone (b.atR a (.code c :: .inLoop c :: k)) cs w) b k cs e a' w'
theorem LoopW.wpIn {F : Fence} {P : Program} {c : Code} {Q : Exit → Act → World → Prop} {a : Act} {w : World} (h : LoopW F P c Q a w) : (Code.loop c).wpIn F 0 P Q a w := by
  intro b k cs hro hb hr
  obtain ⟨e, a', w', hq, harr⟩ := h b k cs hro hb hr
  exact ⟨e, a', w', hq, .of_steps (.one (fenced_calm hb hr rfl) stepR_loop) harr⟩
theorem LoopW.round {F : Fence} {P : Program} {c : Code} {Q : Exit → Act → World → Prop} {a : Act} {w : World} (h : c.wpIn F 0 P (Exit.then (LoopW F P c Q) Q) a w) : LoopW F P c Q a w := by
  intro b k cs hro hb hr
  obtain ⟨e, a₁, w₁, hq, harr⟩ := h b (.inLoop c :: k) cs hro hb hr
  cases e with
  | normal =>
    obtain ⟨e₂, a₂, w₂, hq₂, harr₂⟩ := hq b k cs hro hb hr
    exact ⟨e₂, a₂, w₂, hq₂, .of_steps (StepsIn.trans harr (.one (fenced_calm hb hr rfl) stepR_inLoop)) harr₂⟩
  | exit id => exact ⟨_, a₁, w₁, hq, .pass (x := .inLoop c) rfl (fun _ _ => .inl (by simp)) harr⟩
  | goto l => exact ⟨_, a₁, w₁, hq, .pass (x := .inLoop c) rfl (fun _ _ => .inl (by simp)) harr⟩
  | ret => exact ⟨_, a₁, w₁, hq, .pass (x := .inLoop c) rfl (fun _ _ => .inl (by simp)) harr⟩
  | panic ch => exact ⟨_, a₁, w₁, hq, .pass (x := .inLoop c) rfl (fun _ _ => .inl (by simp)) harr⟩
  | outgrown => exact ⟨_, a₁, w₁, hq, .pass (x := .inLoop c) rfl (fun _ _ => .inl (by simp)) harr⟩

/-- a scope through which no jump to a label goes -/
theorem wpIn_scope {F : Fence} {P : Program} {c : Code} {Q : Exit → Act → World → Prop} {a : Act} {w : World} (h : c.wpIn F 0 P (fun e a w => (match e with
    | .goto _ => False
    | _ => True) ∧ Q e a w) a w) : (Code.scope c).wpIn F 0 P Q a w := by
  intro b k cs hro hb hr
  have s1 : StepsIn (Machine.fenced P F) P (lone (b.atR a (.code (.scope c) :: k)) cs w) (lone (b.atR a (.code c :: .inScope c :: k)) cs w) :=
    .one (fenced_calm hb hr rfl) (step_lone_go (by simp [stepG, stepG.exec, Frame.atR]))
  obtain ⟨e, a₁, w₁, ⟨hg, hq⟩, harr⟩ := h b (.inScope c :: k) cs hro hb hr
  cases e with
  | normal => exact ⟨.normal, a₁, w₁, hq, s1.trans (StepsIn.trans harr (.one (fenced_calm hb hr rfl) (step_lone_go (by simp [stepG, stepG.exec, Frame.atR]))))⟩
  | exit id =>
    have hx : exitTo id (.inScope c :: k) = exitTo id k := by simp [exitTo]
    exact ⟨.exit id, a₁, w₁, hq, fun k' hk => s1.trans (harr.1 k' (by rw [hx]; exact hk)), fun hr' hk => let ⟨k₁, h1, h2⟩ := harr.2 hr' (by rw [hx]; exact hk); ⟨k₁, h1, s1.trans h2⟩⟩
  | goto l => exact hg.elim
  | ret => exact ⟨_, a₁, w₁, hq, .of_steps s1 harr⟩
  | panic ch => exact ⟨_, a₁, w₁, hq, .of_steps s1 harr⟩
  | outgrown => exact ⟨_, a₁, w₁, hq, .of_steps s1 harr⟩

def SndLoop (P : Program) (C : Cx) (rh : Option Nat) (c : Code) (st : St) (k : Ex → St → Prop) : Prop :=
  ∀ ρ a w Q ro, RoOk ρ rh ro → Sim C ρ st a w → Ends C ρ st.nx k Q → LoopW (FW ro) P c Q a w
def SndCall (P : Program) (C : Cx) (f : FuncId) (args : List SV) (H : Heap) (nx : Nat) (k : SV → Heap → Nat → Prop) : Prop :=
  ∀ ρ vs w R ro, SV.RL ρ args vs.toList → Rep C ρ H nx w →
    (∀ s v H' nx' ρ' w', k s H' nx' → SV.R ρ' s v → Rep C ρ' H' nx' w' → Agree ρ ρ' nx → ρ'.d = ρ.d → nx ≤ nx' → R (.returned v) w') → CallsIn (FW ro) 0 P f vs w R

/-- a loop that is left to a proof of its own -/
structure LoopOb (P : Program) (C : Cx) (rh : Option Nat) (c : Code) (st : St) (k : Ex → St → Prop) : Prop where
  h : SndLoop P C rh c st k
/-- a call that is left to a proof of its own -/
structure CallOb (P : Program) (C : Cx) (f : FuncId) (args : List SV) (H : Heap) (nx : Nat) (k : SV → Heap → Nat → Prop) : Prop where
  h : SndCall P C f args H nx k

/-! ### the runner -/
def asts : List E → Prop → Prop
  | [], A => A
  | e :: r, A => match e with
    | .bl true => asts r A
    | e => Ast e (asts r A)
def fork (e : E) (K : Bool → Prop) : Prop :=
  match e with
  | .bl b => K b
  | e => Br e (K true) (K false)
def has (l : List Nat) (n : Nat) : Bool :=
  match l with
  | [] => false
  | a :: r => match Nat.beq a n with
    | true => true
    | false => has r n
structure Cfg where
  inl : List Nat
  out : List Nat
  unroll : Bool

def St.put (st : St) (d : Option Tmp) (v : SV) : St :=
  match d with
  | some t => ⟨setT st.tmps t v, st.heap, st.nx, st.mks⟩
  | none => st
def St.at (st : St) (H : Heap) (nx : Nat) : St := ⟨st.tmps, H, nx, st.mks⟩

/-- what a guard says -/
inductive Gd where
  | yes | no | ask (d : Tmp) (e : E) (want : Bool) | stuck
def guardOf (ops : List Oper) (o : Oper) (ts : List SV) : Gd :=
  match o.guard with
  | none => .yes
  | some (j, want) => match ops[j]? with
    | none => .no
    | some oj => match oj.dst with
      | none => .no
      | some d => match getT ts d with
        | .bool (.bl b) => match b, want with
          | true, true => .yes
          | false, false => .yes
          | _, _ => .no
        | .bool e => .ask d e want
        | .lit (.bool b) => match b, want with
          | true, true => .yes
          | false, false => .yes
          | _, _ => .no
        | .lit _ => .no
        | _ => .stuck

def newOp (P : Program) (H : Heap) (nx : Nat) (f : Operand → SV) (op : Op) : Option NR :=
  match op with
  | .alloc t => allocN P H nx t
  | .box t x => boxN H nx t (f x)
  | .buildSlice t len parts => buildSliceN P H nx t len (parts.toList.map fun (i, x) => (i, f x))
  | .store t a x => storeN P H nx t (f a) (f x)
  | .call c => match c.callee with
    | .builtin .append => match c.argTypes.toList, c.args.toList with
      | [t, t'], [s, x] => match Nat.beq t t' with
        | true => appendN P H nx t (f s) (f x)
        | false => none
      | _, _ => none
    | .builtin .clear => match c.argTypes.toList, c.args.toList with
      | [t], [s] => clearN P H nx t (f s)
      | _, _ => none
    | _ => none
  | _ => none

/-- what has been read, by which operation -/
def addR (i : Nat) (rd : Option Nat) (rds : List (Nat × Nat)) : List (Nat × Nat) :=
  match rd with
  | some h => (i, h) :: rds
  | none => rds
def okRds (H : Heap) (t : Nat) (wr : List Nat) : List (Nat × Nat) → Bool
  | [] => true
  | (k, h) :: r => match t.testBit k with
    | true => okRds H t wr r
    | false => match hfind H h, has wr h with
      | some _, false => okRds H t wr r
      | _, _ => false
/-- may it write this, those having been read that it does not wait for? -/
def okR (dr : Bool) (all : List Oper) (H : Heap) (i : Nat) (rds : List (Nat × Nat)) (wr : List Nat) : Bool :=
  match dr, wr with
  | false, _ => true
  | true, [] => true
  | true, a :: wr => okRds H ((depT all []).getD i 0) (a :: wr) rds

def bindT : List Tmp → List SV → List SV → List SV
  | t :: ts, v :: vs, tm => bindT ts vs (setT tm t v)
  | _, _, tm => tm
def resV (P : Program) (H : Heap) (ts : List SV) : List ResultVar → Option (List E × List SV)
  | [] => some ([], [])
  | .tmp t :: r => match resV P H ts r with
    | some (a, l) => some (a, getT ts t :: l)
    | none => none
  | .cell a t :: r => match loadQ P H t (getT ts a), resV P H ts r with
    | some x, some (b, l) => some (x.ast ++ b, x.v :: l)
    | _, _ => none
def one : List SV → SV
  | [v] => v
  | l => .tup l
def finish (P : Program) (fn : Func) (st : St) (k : SV → Heap → Nat → Prop) : Prop :=
  match resV P st.heap st.tmps fn.results.toList with
  | some (a, l) => asts a (k (one l) st.heap st.nx)
  | none => Stuck "results"
/-- the end of a round -/
def endRound (h : Nat) (e : Ex) (st : St) (k : SV → Heap → Nat → Prop) : Prop :=
  match hfind st.heap h with
  | some (true, .loop _ _ tm ps assign body) => match e with
    | .normal => k (.bool (.bl true)) (hset st.heap h (true, .loop .ready none tm ps assign body)) st.nx
    | .ret => k (.bool (.bl false)) (hset st.heap h (true, .loop .done (some .ret) tm ps assign body)) st.nx
    | .exit id => k (.bool (.bl false)) (hset st.heap h (true, .loop .done (some (.exit id)) tm ps assign body)) st.nx
  | _ => Stuck "round"
def jumpK (pend : Option Code) (st : St) (k : Ex → St → Prop) : Prop :=
  match pend with
  | none => k .normal st
  | some .ret => k .ret st
  | some (.exit id) => k (.exit id) st
  | some _ => Stuck "jump"
/-- the end of a loop over a function -/
def endLoop (h : Nat) (st : St) (H : Heap) (nx : Nat) (k : Ex → St → Prop) : Prop :=
  match hfind H h with
  | some (true, .loop s pend _ _ _ _) => match s with
    | .busy => Stuck "busy"
    | _ => jumpK pend (st.at (hdel H h) nx) k
  | _ => Stuck "loop"

/-- what is left to a proof: loops, calls; and who gives the plans -/
structure ObsP where
  lo : Option Nat → Code → St → (Ex → St → Prop) → Prop
  co : FuncId → List SV → Heap → Nat → (SV → Heap → Nat → Prop) → Prop
  pl : Array Oper → Option Plan
  kn : Nat → Option Bool
/-- a test whose answer is told ahead -/
structure KnownAs (e : E) (b : Bool) (A : Prop) : Prop where
  h : e.b = b
  r : A
def forkK (kn : Nat → Option Bool) (c : Operand) (e : E) (K : Bool → Prop) : Prop :=
  match e with
  | .bl b => K b
  | e => match c with
    | .tmp t => match kn t with
      | some b => KnownAs e b (K b)
      | none => Br e (K true) (K false)
    | _ => Br e (K true) (K false)
/-- a plan that is given by hand -/
structure PlanAs (ops : Array Oper) (p : Plan) (A : Prop) : Prop where
  h : planOf ops = p
  r : A
structure Obs where
  lo : Option Nat → Code → St → (Ex → St → Prop) → Prop
  co : FuncId → List SV → Heap → Nat → (SV → Heap → Nat → Prop) → Prop
def Obs.full (O : Obs) : ObsP := ⟨O.lo, O.co, fun _ => none, fun _ => none⟩
structure Good (P : Program) (C : Cx) (O : ObsP) : Prop where
  lo : ∀ {rh b st k}, O.lo rh b st k → SndLoop P C rh b st k
  co : ∀ {f args H nx k}, O.co f args H nx k → SndCall P C f args H nx k

mutual
def run (P : Program) (O : ObsP) (X : Cfg) : Nat → Option Nat → Code → St → (Ex → St → Prop) → Prop
  | 0, _, _, _, _ => Stuck "fuel"
  | n + 1, rh, c, st, k => match c with
    | .skip => k .normal st
    | .label _ => k .normal st
    | .region _ ops dr => match dr, allQ ops.toList with
      | true, false => match O.pl ops with
        | some p => PlanAs ops p (runPlan P O X n rh ops.toList p [] st (k .normal))
        | none => runPlan P O X n rh ops.toList (planOf ops) [] st (k .normal)
      | dr, _ => runOps P O X n rh dr ops.toList ops.toList 0 [] st (k .normal)
    | .seq a b => run P O X n rh a st (fun e s => match e with
      | .normal => run P O X n rh b s k
      | .exit id => k (.exit id) s
      | .ret => k .ret s)
    | .cond c t f => match ev st.tmps c with
      | .bool e => forkK O.kn c e fun b => match b with
        | true => run P O X n rh t st k
        | false => run P O X n rh f st k
      | _ => Stuck "cond"
    | .block id b => run P O X n rh b st (fun e s => match e with
      | .normal => k .normal s
      | .exit i => match Nat.beq i id with
        | true => k .normal s
        | false => k (.exit i) s
      | .ret => k .ret s)
    | .loop b => match X.unroll with
      | true => runLoop P O X n rh b st k
      | false => O.lo rh b st k
    | .exit id => k (.exit id) st
    | .ret => k .ret st
    | .rangeFunc g ps assign body => match ev st.tmps g with
      | .fn (.func f) a b => match rh with
        | none => runCall P O X n f (a ++ (.yl st.nx :: b)) ((st.nx, true, .loop .ready none st.tmps ps assign body) :: st.heap) (st.nx + 1)
            (fun _ H nx' => endLoop st.nx st H nx' k)
        | some h => match hfind st.heap h with
          | some (_, .loop ..) => runCall P O X n f (a ++ (.yl st.nx :: b)) ((st.nx, true, .loop .ready none st.tmps ps assign body) :: st.heap) (st.nx + 1)
              (fun _ H nx' => endLoop st.nx st H nx' k)
          | _ => Stuck "around"
      | _ => Stuck "range over what"
    | .scope b => run P O X n rh b st k
    | .goto _ => Stuck "goto"
    | .refuse m => Stuck m
def runLoop (P : Program) (O : ObsP) (X : Cfg) : Nat → Option Nat → Code → St → (Ex → St → Prop) → Prop
  | 0, _, _, _, _ => Stuck "fuel"
  | n + 1, rh, b, st, k => run P O X n rh b st (fun e s => match e with
    | .normal => runLoop P O X n rh b s k
    | .exit id => k (.exit id) s
    | .ret => k .ret s)
def runOps (P : Program) (O : ObsP) (X : Cfg) : Nat → Option Nat → Bool → List Oper → List Oper → Nat → List (Nat × Nat) → St → (St → Prop) → Prop
  | 0, _, _, _, _, _, _, _, _ => Stuck "fuel"
  | _ + 1, _, _, _, [], _, _, st, k => k st
  | n + 1, rh, dr, all, o :: r, i, rds, st, k => runG P O X n rh dr all i o rds st (fun rds s => runOps P O X n rh dr all r (i + 1) rds s k)
def runPlan (P : Program) (O : ObsP) (X : Cfg) : Nat → Option Nat → List Oper → Plan → List (Nat × Nat) → St → (St → Prop) → Prop
  | 0, _, _, _, _, _, _ => Stuck "fuel"
  | n + 1, rh, all, p, rds, st, k => match p with
    | .done => k st
    | .take i r => match all[i]? with
      | some o => runG P O X n rh true all i o rds st (fun rds s => runPlan P O X n rh all r rds s k)
      | none => Stuck "plan"
    | .alt i p q => match all[i]? with
      | some o => match q with
        | .stop => runG P O X n rh true all i o rds st (fun rds s => runPlan P O X n rh all p rds s k)
        | q => Both (runG P O X n rh true all i o rds st (fun rds s => runPlan P O X n rh all p rds s k)) (runPlan P O X n rh all q rds st k)
      | none => Stuck "plan"
    | .stop => True
def runG (P : Program) (O : ObsP) (X : Cfg) : Nat → Option Nat → Bool → List Oper → Nat → Oper → List (Nat × Nat) → St → (List (Nat × Nat) → St → Prop) → Prop
  | 0, _, _, _, _, _, _, _, _ => Stuck "fuel"
  | n + 1, rh, dr, all, i, o, rds, st, k => match guardOf all o st.tmps with
    | .yes => runOp P O X n rh dr all i o rds st k
    | .no => k rds (st.put o.dst (.lit undef))
    | .ask d e want => match O.kn d with
      | some b => KnownAs e b (match b, want with
        | true, true => runOp P O X n rh dr all i o rds (st.put (some d) (.bool (.bl true))) k
        | false, false => runOp P O X n rh dr all i o rds (st.put (some d) (.bool (.bl false))) k
        | true, false => k rds ((st.put (some d) (.bool (.bl true))).put o.dst (.lit undef))
        | false, true => k rds ((st.put (some d) (.bool (.bl false))).put o.dst (.lit undef)))
      | none => Br e
        (match want with
          | true => runOp P O X n rh dr all i o rds (st.put (some d) (.bool (.bl true))) k
          | false => k rds ((st.put (some d) (.bool (.bl true))).put o.dst (.lit undef)))
        (match want with
          | false => runOp P O X n rh dr all i o rds (st.put (some d) (.bool (.bl false))) k
          | true => k rds ((st.put (some d) (.bool (.bl false))).put o.dst (.lit undef)))
    | .stuck => Stuck "guard"
def runOp (P : Program) (O : ObsP) (X : Cfg) : Nat → Option Nat → Bool → List Oper → Nat → Oper → List (Nat × Nat) → St → (List (Nat × Nat) → St → Prop) → Prop
  | 0, _, _, _, _, _, _, _, _ => Stuck "fuel"
  | n + 1, _, dr, all, i, o, rds, st, k => match isQ o.op with
    | true => match quietOp P st.heap (ev st.tmps) o.op with
      | some r => asts r.ast (k (addR i r.rd rds) (st.put o.dst r.v))
      | none => Stuck o.pos
    | false => match newOp P st.heap st.nx (ev st.tmps) o.op with
      | some r => match okR dr all st.heap i rds r.wr with
        | true => asts r.ast (k rds ((st.at r.heap r.nx).put o.dst r.v))
        | false => Stuck o.pos
      | none => match o.op with
        | .call c => match c.callee with
          | .value f => match ev st.tmps f with
            | .fn (.func g) a b => runCall P O X n g (a ++ (c.args.toList.map (ev st.tmps) ++ b)) st.heap st.nx (fun v H nx => k rds ((st.at H nx).put o.dst v))
            | .yl h => runYield P O X n h (c.args.toList.map (ev st.tmps)) st.heap st.nx (fun v H nx => k rds ((st.at H nx).put o.dst v))
            | _ => Stuck o.pos
          | _ => Stuck o.pos
        | _ => Stuck o.pos
def runCall (P : Program) (O : ObsP) (X : Cfg) : Nat → FuncId → List SV → Heap → Nat → (SV → Heap → Nat → Prop) → Prop
  | 0, _, _, _, _, _ => Stuck "fuel"
  | n + 1, f, args, H, nx, k => match has X.inl f with
    | true => match P.funcs[f]? with
      | some fn => match fn.body with
        | some c => run P O X n none c ⟨args ++ List.replicate (fn.ntmps - args.length) (.lit undef), H, nx, []⟩ (fun e s => match e with
          | .normal => finish P fn s k
          | .ret => finish P fn s k
          | .exit _ => Stuck "exit")
        | none => Stuck "body"
      | none => Stuck "function"
    | false => match has X.out f with
      | true => O.co f args H nx k
      | false => StuckN f
def runYield (P : Program) (O : ObsP) (X : Cfg) : Nat → Nat → List SV → Heap → Nat → (SV → Heap → Nat → Prop) → Prop
  | 0, _, _, _, _, _ => Stuck "fuel"
  | n + 1, h, args, H, nx, k => match hfind H h with
    | some (true, .loop s _ tm ps assign body) => match s, Nat.beq args.length ps.size with
      | .ready, true => run P O X n (some h) assign ⟨bindT ps.toList args tm, H, nx, []⟩ (fun e s1 => match e with
        | .normal => match hfind s1.heap h with
          | some (true, .loop s' pend' tm' ps' assign' body') => match s' with
            | .ready => run P O X n (some h) body ⟨s1.tmps, hset s1.heap h (true, .loop .busy pend' tm' ps' assign' body'), s1.nx, s1.mks⟩ (fun e s2 => endRound h e s2 k)
            | _ => Stuck "round"
          | _ => Stuck "round"
        | _ => Stuck "assign")
      | _, _ => Stuck "yield"
    | _ => Stuck "yield"
end

/-- functions whose bodies may be walked; functions that may be called -/
def known (P : Program) (l : List Nat) : Bool :=
  match l with
  | [] => true
  | f :: r => match P.funcs[f]? with
    | some fn => match fn.name == "runtime.NumGoroutine", fn.body with
      | false, some c => match codeOk c with
        | true => known P r
        | false => false
      | _, _ => false
    | none => false
def callable (P : Program) (l : List Nat) : Bool :=
  match l with
  | [] => true
  | f :: r => match P.funcs[f]? with
    | some fn => match fn.name == "runtime.NumGoroutine", fn.body with
      | false, some _ => callable P r
      | _, _ => false
    | none => false

end Go.Sx
/-
  What the runner asks is enough.
-/
namespace Go.Sx
open Go

theorem asts_ok : ∀ {l : List E} {A : Prop}, asts l A → astOk l ∧ A
  | [], _, h => ⟨(fun e he => by cases he), h⟩
  | e :: r, A, h => by
    simp only [asts] at h
    split at h
    · obtain ⟨h1, h2⟩ := asts_ok h
      exact ⟨fun x hx => (List.mem_cons.1 hx).elim (fun e => by rw [e]; rfl) (h1 x), h2⟩
    · obtain ⟨h1, h2⟩ := asts_ok h.f
      exact ⟨fun x hx => (List.mem_cons.1 hx).elim (fun e => by rw [e]; exact h.t) (h1 x), h2⟩
theorem fork_ok {e : E} {K : Bool → Prop} (h : fork e K) : K e.b := by
  unfold fork at h
  split at h
  · exact h
  · cases hb : e.b with
    | true => exact h.t hb
    | false => exact h.f hb
theorem forkK_ok {kn : Nat → Option Bool} {c : Operand} {e : E} {K : Bool → Prop} (h : forkK kn c e K) : K e.b := by
  have br : ∀ {e : E}, Br e (K true) (K false) → K e.b := fun {e} h => by
    cases hb : e.b with
    | true => exact h.t hb
    | false => exact h.f hb
  unfold forkK at h
  split at h
  · exact h
  · split at h
    · split at h
      · rw [h.h]; exact h.r
      · exact br h
    · exact br h

section
variable {P : Program} {C : Cx} {O : ObsP} {X : Cfg}

theorem Sim.put {ρ : Rho} {st : St} {a : Act} {w : World} (h : Sim C ρ st a w) (d : Option Tmp) {s : SV} {v : Value} (hs : SV.R ρ s v) : Sim C ρ (st.put d s) (a.put d v) w := by
  cases d with
  | none => exact h
  | some t =>
    refine ⟨?_, h.rep, h.mks⟩
    simp only [St.put, Act.put, setT_eq, Array.toList_setIfInBounds]
    exact RL_set h.tm t hs
theorem RL_know {ρ : Rho} {l : List SV} {r : List Value} (h : SV.RL ρ l r) {d : Nat} {s s' : SV} (hs : l[d]? = some s) (hv : ∀ v, SV.R ρ s v → SV.R ρ s' v) : SV.RL ρ (l.set d s') r := by
  refine RL_of_get (by rw [List.length_set]; exact RL_length h) fun i x v h1 h2 => ?_
  by_cases e : d = i
  · subst e
    have hl : d < l.length := (List.getElem?_eq_some_iff.1 hs).1
    rw [List.getElem?_set_self hl] at h1
    cases h1
    obtain ⟨v', h3, h4⟩ := RL_get h d s hs
    rw [h2] at h3
    cases h3
    exact hv _ h4
  · rw [List.getElem?_set_ne e] at h1
    obtain ⟨v', h3, h4⟩ := RL_get h i x h1
    rw [h2] at h3
    cases h3
    exact h4

theorem getT_some {l : List SV} {d : Nat} {s : SV} (h : getT l d = s) (hne : s ≠ .any) : l[d]? = some s := by
  rw [getT_eq] at h
  cases hd : l[d]? with
  | none => rw [List.getD_eq_getElem?_getD, hd] at h; exact absurd h.symm hne
  | some x => rw [List.getD_eq_getElem?_getD, hd] at h; simp at h; rw [h]

theorem Sim.know {ρ : Rho} {st : St} {a : Act} {w : World} (h : Sim C ρ st a w) {d : Tmp} {e : E} (hd : getT st.tmps d = .bool e) {b : Bool} (hb : e.b = b) : Sim C ρ (st.put (some d) (.bool (.bl b))) a w := by
  refine ⟨?_, h.rep, h.mks⟩
  simp only [St.put, setT_eq]
  exact RL_know h.tm (getT_some hd (by simp)) fun v hv => by simp only [SV.R, E.b_bl] at hv ⊢; rw [hv, hb]

theorem guard_val {ops : Array Oper} {o : Oper} {j : Nat} {want : Bool} {ts : List SV} {tmps : Array Value} {ρ : Rho} (h : SV.RL ρ ts tmps.toList) (hg : o.guard = some (j, want)) {oj : Oper} (hj : ops.toList[j]? = some oj) {d : Tmp} (hd : oj.dst = some d) {s : SV} (hs : getT ts d = s) (hne : s ≠ .any) :
    ∃ v, SV.R ρ s v ∧ Region.wanted o (yielded ops tmps) = (match v with | .bool b => b == want | _ => false) := by
  obtain ⟨v, h1, h2⟩ := RL_get h d s (getT_some hs hne)
  refine ⟨v, h2, ?_⟩
  have h1' : tmps[d]? = some v := by simpa using h1
  have hj' : ops[j]? = some oj := by simpa using hj
  have hw : Region.wanted o (yielded ops tmps) = (yielded ops tmps j == some want) := by
    unfold Region.wanted
    rw [hg]
  rw [hw]
  unfold yielded
  rw [hj']
  simp only [Option.bind_some, hd, h1']
  cases v <;> simp

theorem guard_yes {ops : Array Oper} {o : Oper} {ts : List SV} {tmps : Array Value} {ρ : Rho} (h : SV.RL ρ ts tmps.toList) (hg : guardOf ops.toList o ts = .yes) : Region.wanted o (yielded ops tmps) = true := by
  unfold guardOf at hg
  split at hg
  · rename_i hn
    simp [Region.wanted, hn]
  · rename_i j want hn
    split at hg
    · cases hg
    · rename_i oj hj
      split at hg
      · cases hg
      · rename_i d hd
        split at hg
        · rename_i b ht
          obtain ⟨v, hv, hw⟩ := guard_val h hn hj hd ht (by simp)
          simp only [SV.R, E.b_bl] at hv
          subst hv
          rw [hw]
          cases b <;> cases want <;> simp_all
        · cases hg
        · rename_i b ht
          obtain ⟨v, hv, hw⟩ := guard_val h hn hj hd ht (by simp)
          simp only [SV.R] at hv
          subst hv
          rw [hw]
          cases b <;> cases want <;> simp_all
        · cases hg
        · cases hg
theorem guard_no {ops : Array Oper} {o : Oper} {ts : List SV} {tmps : Array Value} {ρ : Rho} (h : SV.RL ρ ts tmps.toList) (hg : guardOf ops.toList o ts = .no) : Region.wanted o (yielded ops tmps) = false := by
  unfold guardOf at hg
  split at hg
  · cases hg
  · rename_i j want hn
    split at hg
    · rename_i hj
      have hj' : ops[j]? = none := by simpa using hj
      simp [Region.wanted, hn, yielded, hj']
    · rename_i oj hj
      have hj' : ops[j]? = some oj := by simpa using hj
      split at hg
      · rename_i hd
        simp [Region.wanted, hn, yielded, hj', hd]
      · rename_i d hd
        split at hg
        · rename_i b ht
          obtain ⟨v, hv, hw⟩ := guard_val h hn hj hd ht (by simp)
          simp only [SV.R, E.b_bl] at hv
          subst hv
          rw [hw]
          cases b <;> cases want <;> simp_all
        · cases hg
        · rename_i b ht
          obtain ⟨v, hv, hw⟩ := guard_val h hn hj hd ht (by simp)
          simp only [SV.R] at hv
          subst hv
          rw [hw]
          cases b <;> cases want <;> simp_all
        · rename_i v hnb ht
          obtain ⟨v', hv, hw⟩ := guard_val h hn hj hd ht (by simp)
          simp only [SV.R] at hv
          subst hv
          rw [hw]
          split
          · rename_i b
            exact absurd rfl (hnb b)
          · rfl
        · cases hg
theorem guard_ask {ops : Array Oper} {o : Oper} {ts : List SV} {tmps : Array Value} {ρ : Rho} (h : SV.RL ρ ts tmps.toList) {d : Tmp} {e : E} {want : Bool} (hg : guardOf ops.toList o ts = .ask d e want) :
    getT ts d = .bool e ∧ Region.wanted o (yielded ops tmps) = (e.b == want) := by
  unfold guardOf at hg
  split at hg
  · cases hg
  · rename_i j want' hn
    split at hg
    · cases hg
    · rename_i oj hj
      split at hg
      · cases hg
      · rename_i d' hd
        split at hg
        · rename_i b ht
          cases b <;> cases want' <;> simp at hg
        · rename_i e' _ ht
          cases hg
          obtain ⟨v, hv, hw⟩ := guard_val h hn hj hd ht (by simp)
          simp only [SV.R] at hv
          subst hv
          exact ⟨ht, hw⟩
        · rename_i b ht
          cases b <;> cases want' <;> simp at hg
        · cases hg
        · cases hg

theorem quietOp_pure {H : Heap} {f : Operand → SV} {op : Op} {r : QR} (h : quietOp P H f op = some r) (hp : isPure op = true) : r.rd = none := by
  unfold quietOp at h
  split at h
  all_goals try first
    | (cases h; rfl)
    | (cases hp; done)
  all_goals (try unfold pickQ at h)
  all_goals (try unfold unQ at h)
  all_goals (try unfold convQ at h)
  all_goals (try unfold sliceQ at h)
  all_goals (try unfold fieldAddrQ at h)
  all_goals (try unfold fieldQ at h)
  all_goals (try unfold indexAddrQ at h)
  all_goals (try unfold indexQ at h)
  all_goals (repeat' split at h)
  all_goals (try unfold builtinQ at h)
  all_goals (repeat' split at h)
  all_goals (try unfold lenQ at h)
  all_goals (repeat' split at h)
  all_goals first
    | (cases h; rfl)
    | (cases h; done)

theorem newOp_ok {H : Heap} {nx : Nat} {ρ : Rho} {w : World} {g : Operand → Value} {f : Operand → SV} {o : Oper} {r : NR} (hR : RO ρ f g) (R : Rep C ρ H nx w) (h : newOp P H nx f o.op = some r) (ha : astOk r.ast) :
    NOk P C ρ nx g o r w ∧ ∀ c, o.op ≠ .defer c := by
  refine ⟨?_, fun c e => by rw [e] at h; cases h⟩
  unfold newOp at h
  split at h
  · rename_i t hop
    exact allocN_ok hop R h
  · rename_i t x hop
    exact boxN_ok hop hR R h
  · rename_i t len parts hop
    exact buildSliceN_ok hop hR R h
  · rename_i t a x hop
    exact storeN_ok hop hR R h ha
  · rename_i c hop
    split at h
    · rename_i hc
      split at h
      · rename_i t t' s x hty hargs
        split at h
        · rename_i ht
          have ht := Nat.eq_of_beq_eq_true ht
          subst ht
          exact appendN_ok hop hc hty hargs hR R h ha
        · cases h
      · cases h
    · rename_i hc
      split at h
      · rename_i t s hty hargs
        exact clearN_ok hop hc hty hargs hR R h ha
      · cases h
    · cases h
  · cases h

def PinsOk (ρ : Rho) (rds : List (Nat × Nat)) (pins : Nat → List Nat) : Prop := ∀ k x, x ∈ pins k → ∃ h p, (k, h) ∈ rds ∧ ρ h = some (some p) ∧ p.a.block = x
theorem PinsOk.mono {ρ ρ' : Rho} (hx : Ext ρ ρ') {rds : List (Nat × Nat)} {pins : Nat → List Nat} (h : PinsOk ρ rds pins) : PinsOk ρ' rds pins := fun k x hk => by
  obtain ⟨g, p, h1, h2, h3⟩ := h k x hk
  exact ⟨g, p, h1, hx _ _ h2, h3⟩
/-- an operation that is wanted -/
def OpOk (P : Program) (C : Cx) (O : ObsP) (X : Cfg) (n : Nat) : Prop := ∀ rh dr all i o rds st k, runOp P O X n rh dr all i o rds st k →
  (isQ o.op = true → ∀ ρ a w pins, Sim C ρ st a w → PinsOk ρ rds pins → ∃ s v b rds', (∀ w', (∀ x ∈ b, w'.heap[x]? = w.heap[x]?) → (execOp a.eval o).run P w' = .ok (.value v) w') ∧ (isPure o.op = true → b = []) ∧ SV.R ρ s v ∧ PinsOk ρ rds' (upd pins i b) ∧ k rds' (st.put o.dst s)) ∧
  (isQ o.op = false → ∀ ρ a w pins ro Q (K : Act → World → Prop), RoOk ρ rh ro → Sim C ρ st a w → PinsOk ρ rds pins → (∀ rds' st' ρ' a' w', k rds' st' → Sim C ρ' st' a' w' → Agree ρ ρ' st.nx → st.nx ≤ st'.nx → PinsOk ρ' rds' pins → K a' w') →
    o.wpIn (FW ro) 0 P a w (fun a' w' => (dr = true → isNew o.op = true → ∀ k, ((depT all []).getD i 0).testBit k = false → ∀ x ∈ pins k, w'.heap[x]? = w.heap[x]?) ∧ K a' w') Q)
def OpsOk (P : Program) (C : Cx) (O : ObsP) (X : Cfg) (n : Nat) : Prop := ∀ rh dr (ops : Array Oper) rest i rds st k, runOps P O X n rh dr ops.toList rest i rds st k →
  ∀ ρ a w pins Q ro G, RoOk ρ rh ro → Walks dr ro P ops Q G → i ≤ ops.size → ops.toList.drop i = rest → Sim C ρ st a w → PinsOk ρ rds pins → (∀ st' ρ' a' w', k st' → Sim C ρ' st' a' w' → Agree ρ ρ' st.nx → st.nx ≤ st'.nx → Q .normal a' w') → G i pins a w
def CallOk (P : Program) (C : Cx) (O : ObsP) (X : Cfg) (n : Nat) : Prop := ∀ f args H nx k, runCall P O X n f args H nx k → SndCall P C f args H nx k ∧ Go.Proofs.Enters P f
def YieldOk (P : Program) (C : Cx) (O : ObsP) (X : Cfg) (n : Nat) : Prop := ∀ h args H nx k, runYield P O X n h args H nx k → ∀ ρ vs w (R : Ending → World → Prop) ro, SV.RL ρ args vs.toList → Rep C ρ H nx w →
  (∀ s v H' nx' ρ' w', k s H' nx' → SV.R ρ' s v → Rep C ρ' H' nx' w' → Agree ρ ρ' nx → ρ'.d = ρ.d → nx ≤ nx' → R (.returned v) w') →
  ∃ p fn tmps asg bd, ρ h = some (some p) ∧ (Instr.yield p.a.block vs).run P w = .ok (.round p.a.block fn tmps asg bd) w ∧ RoundIn (FW ro) 0 P p.a.block fn tmps asg bd w R
def RunOk (P : Program) (C : Cx) (O : ObsP) (X : Cfg) (n : Nat) : Prop := ∀ rh c st k, codeOk c = true → run P O X n rh c st k → Snd P C rh c st k
def LoopOk (P : Program) (C : Cx) (O : ObsP) (X : Cfg) (n : Nat) : Prop := ∀ rh c st k, codeOk c = true → runLoop P O X n rh c st k → SndLoop P C rh c st k

theorem Sim.ext {ρ ρ' : Rho} {st : St} {a : Act} {w w' : World} {H : Heap} {nx : Nat} (h : Sim C ρ st a w) (hx : Ext ρ ρ') (hd : ρ'.d = ρ.d) (R : Rep C ρ' H nx w') : Sim C ρ' (st.at H nx) a w' :=
  ⟨RL_mono hx _ _ h.tm, R, by have := h.mks; unfold Marks at *; rw [hd]; exact this⟩

theorem St.put_nx (st : St) (d : Option Tmp) (v : SV) : (st.put d v).nx = st.nx := by cases d <;> rfl
theorem St.put_heap (st : St) (d : Option Tmp) (v : SV) : (st.put d v).heap = st.heap := by cases d <;> rfl
theorem St.put_tmps (st : St) (d : Option Tmp) (v : SV) : (st.put d v).mks = st.mks := by cases d <;> rfl

/-- an operation, its guard asked -/
theorem gOk (n : Nat) {rh : Option Nat} {dr : Bool} {ops : Array Oper} {i : Nat} {o : Oper} {rds : List (Nat × Nat)} {st : St} {k : List (Nat × Nat) → St → Prop} (h : runG P O X (n + 1) rh dr ops.toList i o rds st k) {ρ : Rho} {a : Act} {w : World} (hS : Sim C ρ st a w) :
    ∃ st1, st1.nx = st.nx ∧ Sim C ρ st1 a w ∧ ((Region.wanted o (yielded ops a.tmps) = true ∧ runOp P O X n rh dr ops.toList i o rds st1 k) ∨ (Region.wanted o (yielded ops a.tmps) = false ∧ k rds (st1.put o.dst (.lit undef)))) := by
  simp only [runG] at h
  split at h
  · rename_i hg
    exact ⟨st, rfl, hS, .inl ⟨guard_yes hS.tm hg, h⟩⟩
  · rename_i hg
    exact ⟨st, rfl, hS, .inr ⟨guard_no hS.tm hg, h⟩⟩
  · rename_i d e want hg
    obtain ⟨gd, gw⟩ := guard_ask hS.tm hg
    split at h
    · rename_i b hkn
      have hb := h.h
      have h3 := h.r
      have hS1 := hS.know gd hb
      rw [hb] at gw
      cases b with
      | true =>
        cases want with
        | true => exact ⟨_, St.put_nx _ _ _, hS1, .inl ⟨gw, h3⟩⟩
        | false => exact ⟨_, St.put_nx _ _ _, hS1, .inr ⟨gw, h3⟩⟩
      | false =>
        cases want with
        | true => exact ⟨_, St.put_nx _ _ _, hS1, .inr ⟨gw, h3⟩⟩
        | false => exact ⟨_, St.put_nx _ _ _, hS1, .inl ⟨gw, h3⟩⟩
    cases hb : e.b with
    | true =>
      have h3 := h.t hb
      have hS1 := hS.know gd hb
      rw [hb] at gw
      cases want with
      | true => exact ⟨_, St.put_nx _ _ _, hS1, .inl ⟨gw, h3⟩⟩
      | false => exact ⟨_, St.put_nx _ _ _, hS1, .inr ⟨gw, h3⟩⟩
    | false =>
      have h3 := h.f hb
      have hS1 := hS.know gd hb
      rw [hb] at gw
      cases want with
      | true => exact ⟨_, St.put_nx _ _ _, hS1, .inr ⟨gw, h3⟩⟩
      | false => exact ⟨_, St.put_nx _ _ _, hS1, .inl ⟨gw, h3⟩⟩
  · cases h

/-- an operation behind its guard, and what comes then -/
def GnOk (P : Program) (C : Cx) (O : ObsP) (X : Cfg) (n : Nat) : Prop := ∀ rh dr (ops : Array Oper) i o rds st k, runG P O X n rh dr ops.toList i o rds st k → ∀ ρ a w pins Q ro (K : (Nat → List Nat) → Act → World → Prop), ops[i]? = some o → RoOk ρ rh ro → Sim C ρ st a w → PinsOk ρ rds pins →
  (∀ rds' st' ρ' a' w' pins', k rds' st' → Sim C ρ' st' a' w' → Agree ρ ρ' st.nx → st.nx ≤ st'.nx → PinsOk ρ' rds' pins' → K pins' a' w') → StepP dr ro P ops Q (fun j => (depT ops.toList []).getD j 0) i pins K a w

theorem gnOk_step {n : Nat} (h1 : OpOk P C O X n) : GnOk P C O X (n + 1) := by
  intro rh dr ops i o rds st k h ρ a w pins Q ro K ho hro hS hpn hk
  obtain ⟨st1, hnx, hS1, hor⟩ := gOk n h hS
  have same : ∀ {w' : World}, (dr = true → isNew o.op = true → ∀ k, ((depT ops.toList []).getD i 0).testBit k = false → ∀ x ∈ pins k, w'.heap[x]? = w.heap[x]?) → dr = true → Leaves1 (fun j => (depT ops.toList []).getD j 0) ops i pins w w' := fun h hd o' ho' hn k hb x hx => by
    rw [ho] at ho'
    cases ho'
    exact h hd hn k hb x hx
  refine ⟨o, ho, ?_⟩
  rcases hor with ⟨hw, hrun⟩ | ⟨hw, hrun⟩
  · obtain ⟨g1, g2⟩ := h1 rh dr _ i o rds st1 _ hrun
    cases hq : isQ o.op with
    | true =>
      obtain ⟨s, v, b, rds', e1, e2, e3, e4, e5⟩ := g1 hq ρ a w pins hS1 hpn
      exact .inl ⟨rfl, v, b, .inl ⟨hw, e1⟩, e2, hk _ _ ρ _ w _ e5 (hS1.put o.dst e3) (Agree.refl _ _) (by rw [St.put_nx, hnx]; exact Nat.le_refl _) e4⟩
    | false =>
      refine .inr ⟨rfl, ?_⟩
      unfold wpOpIn
      simp only [ho, hw, if_true]
      refine Oper.wpIn_mono (fun a' w' h' => ⟨same h'.1, h'.2⟩) (g2 hq ρ a w pins ro Q (K pins) hro hS1 hpn fun rds' st' ρ' a' w' hk' hS' hag hle hpn' => hk _ _ ρ' a' w' _ hk' hS' (by rw [← hnx]; exact hag) (by rw [← hnx]; exact hle) hpn')
  · have hS2 := hS1.put o.dst (s := .lit undef) (v := undef) (by simp only [SV.R])
    have hle : st.nx ≤ (st1.put o.dst (.lit undef)).nx := by rw [St.put_nx, hnx]; exact Nat.le_refl _
    cases hq : isQ o.op with
    | true =>
      refine .inl ⟨rfl, undef, [], .inr ⟨hw, rfl⟩, fun _ => rfl, hk _ _ ρ _ w _ hrun hS2 (Agree.refl _ _) hle fun k x hx => ?_⟩
      unfold upd at hx
      split at hx
      · cases hx
      · exact hpn k x hx
    | false =>
      refine .inr ⟨rfl, ?_⟩
      unfold wpOpIn
      simp only [ho, hw]
      exact ⟨fun _ _ => trivial, fun _ o' _ _ k _ x _ => rfl, hk _ _ ρ _ w _ hrun hS2 (Agree.refl _ _) hle hpn⟩

theorem opsOk_step {n : Nat} (h1 : GnOk P C O X n) (h2 : OpsOk P C O X n) : OpsOk P C O X (n + 1) := by
  intro rh dr ops rest i rds st k h ρ a w pins Q ro G hro hW hi hrest hS hpn hk
  cases rest with
  | nil =>
    simp only [runOps] at h
    have : i = ops.size := by
      have := congrArg List.length hrest
      simp at this
      omega
    subst this
    exact hW.done pins a w (hk st ρ a w h hS (Agree.refl _ _) (Nat.le_refl _))
  | cons o r =>
    have hlt : i < ops.size := by
      have := congrArg List.length hrest
      simp at this
      omega
    have ho : ops[i]? = some o := by
      have h3 : ops.toList[i]? = some o := by
        rw [← List.head?_drop, hrest]
        rfl
      simpa using h3
    have hr : ops.toList.drop (i + 1) = r := by
      rw [← List.tail_drop, hrest]
      rfl
    simp only [runOps] at h
    exact hW.step i pins a w hlt (h1 rh dr ops i o rds st _ h ρ a w pins Q ro (G (i + 1)) ho hro hS hpn fun rds1 st1 ρ1 a1 w1 pins1 hrun hS1 hag hle hpn1 =>
      h2 rh dr ops r (i + 1) rds1 st1 k hrun ρ1 a1 w1 pins1 Q ro G (hro.mono (Ext.of_agree hS.rep hag)) hW hlt hr hS1 hpn1 fun st' ρ' a' w' hk' hS' hag' hle' => hk st' ρ' a' w' hk' hS' (hag.trans hag' hle) (Nat.le_trans hle hle'))

def PlanOk (P : Program) (C : Cx) (O : ObsP) (X : Cfg) (n : Nat) : Prop := ∀ rh (ops : Array Oper) p rds st k, runPlan P O X n rh ops.toList p rds st k →
  ∀ ρ a w pins Q ro, RoOk ρ rh ro → Sim C ρ st a w → PinsOk ρ rds pins → (∀ st' ρ' a' w', k st' → Sim C ρ' st' a' w' → Agree ρ ρ' st.nx → st.nx ≤ st'.nx → Q .normal a' w') → planRun (StepP true ro P ops Q (fun j => (depT ops.toList []).getD j 0)) (Q .normal) p pins a w
theorem planOk_step {n : Nat} (h1 : GnOk P C O X n) (h2 : PlanOk P C O X n) : PlanOk P C O X (n + 1) := by
  intro rh ops p rds st k h ρ a w pins Q ro hro hS hpn hk
  have step : ∀ i o r, ops.toList[i]? = some o → runG P O X n rh true ops.toList i o rds st (fun rds s => runPlan P O X n rh ops.toList r rds s k) → StepP true ro P ops Q (fun j => (depT ops.toList []).getD j 0) i pins (planRun (StepP true ro P ops Q (fun j => (depT ops.toList []).getD j 0)) (Q .normal) r) a w := fun i o r ho hrun =>
    h1 rh true ops i o rds st _ hrun ρ a w pins Q ro _ (by simpa using ho) hro hS hpn fun rds1 st1 ρ1 a1 w1 pins1 hrun hS1 hag hle hpn1 =>
      h2 rh ops r rds1 st1 k hrun ρ1 a1 w1 pins1 Q ro (hro.mono (Ext.of_agree hS.rep hag)) hS1 hpn1 fun st' ρ' a' w' hk' hS' hag' hle' => hk st' ρ' a' w' hk' hS' (hag.trans hag' hle) (Nat.le_trans hle hle')
  unfold runPlan at h
  split at h
  · exact hk st ρ a w h hS (Agree.refl _ _) (Nat.le_refl _)
  · split at h
    · rename_i o ho
      exact step _ o _ ho h
    · cases h
  · split at h
    · rename_i o ho
      split at h
      · exact ⟨step _ o _ ho h, trivial⟩
      · exact ⟨step _ o _ ho h.l, h2 rh ops _ rds st k h.r ρ a w pins Q ro hro hS hpn hk⟩
    · cases h
  · trivial

theorem newOp_wr {H : Heap} {nx : Nat} {f : Operand → SV} {op : Op} {r : NR} (h : newOp P H nx f op = some r) : ∀ g ∈ r.wr, ∃ ob, hfind H g = some (true, ob) := by
  have nil : ∀ {l : List Nat}, l = [] → ∀ g ∈ l, ∃ ob, hfind H g = some (true, ob) := fun e g hg => by rw [e] at hg; cases hg
  unfold newOp at h
  split at h
  · unfold allocN at h
    repeat' split at h
    all_goals first | (cases h; done) | (cases h; exact nil rfl)
  · unfold boxN at h
    repeat' split at h
    all_goals first | (cases h; done) | (cases h; exact nil rfl)
  · unfold buildSliceN at h
    repeat' split at h
    all_goals first | (cases h; done) | (cases h; exact nil rfl)
  · unfold storeN at h
    split at h
    · split at h
      · rename_i ob hf
        split at h
        · split at h
          · cases h
            intro g hg
            rw [List.mem_singleton] at hg
            subst hg
            exact ⟨ob, hf⟩
          · cases h
        · cases h
      · cases h
    · cases h
  · split at h
    · split at h
      · split at h
        · unfold appendN at h
          split at h
          · split at h
            · split at h
              · split at h
                · split at h
                  · split at h
                    · cases h; exact nil rfl
                    · cases h; exact nil rfl
                    · rename_i hm
                      obtain ⟨_, _, _, _, ob, _, hf⟩ := modeOf_own hm
                      cases h
                      intro g hg
                      rw [List.mem_singleton] at hg
                      subst hg
                      exact ⟨ob, hf⟩
                    · cases h
                  · cases h
                · cases h
              · cases h
            · cases h
          · cases h
        · cases h
      · cases h
    · split at h
      · exact clearN_wr h
      · cases h
    · cases h
  · cases h

theorem okRds_spec {H : Heap} {t : Nat} {wr : List Nat} : ∀ {rds : List (Nat × Nat)}, okRds H t wr rds = true → ∀ k h, (k, h) ∈ rds → t.testBit k = false → ∃ x, hfind H h = some x ∧ has wr h = false
  | [], _, k, h, hm, _ => by cases hm
  | (k', h') :: r, hok, k, h, hm, ht => by
    simp only [okRds] at hok
    rcases List.mem_cons.1 hm with e | hm
    · cases e
      rw [ht] at hok
      simp only at hok
      split at hok
      · rename_i x h1 h2
        exact ⟨x, h1, h2⟩
      · cases hok
    · split at hok
      · exact okRds_spec hok k h hm ht
      · split at hok
        · exact okRds_spec hok k h hm ht
        · cases hok
theorem has_mem : ∀ {l : List Nat} {g : Nat}, g ∈ l → has l g = true
  | a :: r, g, h => by
    simp only [has]
    rcases List.mem_cons.1 h with e | h
    · subst e
      simp
    · split
      · rfl
      · exact has_mem h

theorem opOk_step {n : Nat} (h1 : CallOk P C O X n) (h2 : YieldOk P C O X n) : OpOk P C O X (n + 1) := by
  intro rh dr all i o rds st k h
  simp only [runOp] at h
  split at h
  · rename_i hq
    refine ⟨fun _ ρ a w pins hS hpn => ?_, fun hf => by rw [hq] at hf; cases hf⟩
    split at h
    · rename_i r hr
      obtain ⟨ha, hk⟩ := asts_ok h
      obtain ⟨v, hv, hrun⟩ := quietOp_ok (w := w) (ev_R hS.tm) hS.rep.obj hr ha
      refine ⟨r.v, v, (match r.rd with
        | some h => (match ρ h with
          | some (some p) => [p.a.block]
          | _ => [])
        | none => []), addR i r.rd rds, fun w' hw' => hrun w' fun h p hrd hp => ?_, fun hp => by rw [quietOp_pure hr hp], hv, fun k x hx => ?_, hk⟩
      · rw [hrd] at hw'
        simp only [hp] at hw'
        exact hw' _ (List.mem_singleton.2 rfl)
      · unfold upd at hx
        split at hx
        · rename_i e
          subst e
          split at hx
          · rename_i h hrd
            split at hx
            · rename_i p hp
              exact ⟨h, p, by rw [hrd]; exact List.mem_cons_self, hp, (List.mem_singleton.1 hx).symm⟩
            · cases hx
          · cases hx
        · obtain ⟨h, p, g1, g2, g3⟩ := hpn k x hx
          refine ⟨h, p, ?_, g2, g3⟩
          unfold addR
          split
          · exact List.mem_cons_of_mem _ g1
          · exact g1
    · cases h
  · rename_i hq
    refine ⟨fun hf => (by rw [hq] at hf; cases hf), fun _ ρ a w pins ro Q K hro hS hpn hk => ?_⟩
    split at h
    · rename_i r hr
      split at h
      · rename_i hokr
        obtain ⟨ha, hk'⟩ := asts_ok h
        obtain ⟨⟨v, w', ρ', ⟨g1, gd⟩, g2, g3, g4, g5, g6⟩, hnd⟩ := newOp_ok (ev_R hS.tm) hS.rep hr ha
        have hx := Ext.of_agree hS.rep g1
        have hS' := (hS.ext hx gd g3).put o.dst g4
        have hK := hk _ _ ρ' _ w' hk' hS' g1 (by rw [St.put_nx]; exact g2) (hpn.mono hx)
        have hleaves : dr = true → isNew o.op = true → ∀ k, ((depT all []).getD i 0).testBit k = false → ∀ x ∈ pins k, w'.heap[x]? = w.heap[x]? := fun hd _ k hb x hx => by
          obtain ⟨h, p, e1, e2, e3⟩ := hpn k x hx
          subst e3
          refine g6 _ (hS.rep.lt _ _ e2) fun g p' hg hp' => ?_
          subst hd
          unfold okR at hokr
          split at hokr
          · rename_i hd; cases hd
          · rename_i hwr; rw [hwr] at hg; cases hg
          · rename_i c wr' _ hwr
            obtain ⟨x, f1, f2⟩ := okRds_spec hokr k h e1 hb
            rw [hwr] at hg
            have hne : g ≠ h := fun e => by
              subst e
              rw [has_mem hg] at f2
              cases f2
            obtain ⟨ob, hf⟩ := newOp_wr hr g (by rw [hwr]; exact hg)
            exact hS.rep.sep g ob h x.1 x.2 p' p hne hf f1 hp' e2
        rcases g5 with g5 | ⟨g5, rfl⟩
        · exact wpIn_value hnd g5 ⟨hleaves, hK⟩
        · exact wpIn_skipped hnd g5 ⟨hleaves, hK⟩
      · cases h
    · split at h
      · rename_i c hop
        have hnd : ∀ c', o.op ≠ .defer c' := fun c' e => by rw [hop] at e; cases e
        split at h
        · rename_i f hcal
          have hno : isNew o.op = false := by rw [hop]; simp only [isNew, hcal]
          have hargs : SV.RL ρ (c.args.toList.map (ev st.tmps)) (c.args.map a.eval).toList := by
            rw [Array.toList_map]
            exact RL_map (ev_R hS.tm) c.args.toList
          have hf := ev_R hS.tm f
          have bad : ∀ {A : Prop}, isNew o.op = true → A := fun hn => by rw [hno] at hn; cases hn
          split at h
          · rename_i g x y hfe
            obtain ⟨hc, he⟩ := h1 _ _ _ _ _ h
            rw [hfe] at hf
            simp only [SV.R] at hf
            obtain ⟨xs, ys, hfv, hx, hy⟩ := hf
            have hrun : (execOp a.eval o).run P w = .ok (.enter g (xs ++ c.args.map a.eval ++ ys)) w := by
              unfold execOp
              simp only [hop, resolve, hcal, hfv, Deferred.ofValue, Sem.run_bind, Sem.run_pure, Result.andThen_ok, invoke]
              exact he _ w
            refine ⟨fun _ _ => trivial, ?_⟩
            rw [Oper.semAt_eq _ _ _ hnd, hrun, Oper.uponIn_enter]
            refine ⟨fun hd => by simp [FW, Fence.wide] at hd, hc ρ _ w _ ro ?_ hS.rep ?_⟩
            · simp only [Array.toList_append, List.append_assoc]
              exact RL_append hx (RL_append hargs hy)
            · intro s v H' nx' ρ' w' hk' hs hrep hag hd hle
              have hx := Ext.of_agree hS.rep hag
              exact ⟨fun _ hn => bad hn, hk _ _ ρ' _ w' hk' ((hS.ext hx hd hrep).put o.dst hs) hag (by rw [St.put_nx]; exact hle) (hpn.mono hx)⟩
          · rename_i hd hfe
            rw [hfe] at hf
            simp only [SV.R] at hf
            obtain ⟨p, hp, hfv⟩ := hf
            obtain ⟨p', fn, tmps, asg, bd, hp', hrn, hround⟩ := h2 _ _ _ _ _ h ρ (c.args.map a.eval) w (fun
              | .returned v, w'' => (dr = true → isNew o.op = true → ∀ k, ((depT all []).getD i 0).testBit k = false → ∀ x ∈ pins k, w''.heap[x]? = w.heap[x]?) ∧ K (a.put o.dst v) w''
              | .panicked chain, w'' => Q (.panic chain) a w''
              | .outgrown, _ => LetsOut Q) ro hargs hS.rep fun s v H' nx' ρ' w' hk' hs hrep hag hdd hle =>
                have hx := Ext.of_agree hS.rep hag
                ⟨fun _ hn => bad hn, hk _ _ ρ' _ w' hk' ((hS.ext hx hdd hrep).put o.dst hs) hag (by rw [St.put_nx]; exact hle) (hpn.mono hx)⟩
            rw [hp] at hp'
            cases hp'
            have hrun : (execOp a.eval o).run P w = .ok (.round p.a.block fn tmps asg bd) w := by
              unfold execOp
              simp only [hop, resolve, hcal, hfv, Deferred.ofValue, Sem.run_bind, Sem.run_pure, Result.andThen_ok, invoke]
              rw [Array.empty_append]
              exact hrn
            refine ⟨fun _ _ => trivial, ?_⟩
            rw [Oper.semAt_eq _ _ _ hnd, hrun, Oper.uponIn_round]
            exact ⟨fun hd => by simp [FW, Fence.wide] at hd, hround⟩
          · cases h
        · cases h
      · cases h
end
end Go.Sx
/-
  Calls, rounds.
-/
namespace Go.Sx
open Go

section
variable {P : Program} {C : Cx} {O : ObsP} {X : Cfg}

theorem known_ok : ∀ {l : List Nat}, known P l = true → ∀ {f : Nat}, has l f = true → ∃ fn c, P.funcs[f]? = some fn ∧ (fn.name == "runtime.NumGoroutine") = false ∧ fn.body = some c ∧ codeOk c = true
  | [], _, _, hf => by cases hf
  | a :: r, h, f, hf => by
    simp only [known] at h
    split at h
    · rename_i fn hfn
      split at h
      · rename_i c hname hbody
        split at h
        · rename_i hok
          simp only [has] at hf
          split at hf
          · rename_i e
            have e := Nat.eq_of_beq_eq_true e
            subst e
            exact ⟨fn, c, hfn, hname, hbody, hok⟩
          · exact known_ok h hf
        · cases h
      · cases h
    · cases h
theorem callable_ok : ∀ {l : List Nat}, callable P l = true → ∀ {f : Nat}, has l f = true → Go.Proofs.Enters P f
  | [], _, _, hf => by cases hf
  | a :: r, h, f, hf => by
    simp only [callable] at h
    split at h
    · rename_i fn hfn
      split at h
      · rename_i c hname hbody
        simp only [has] at hf
        split at hf
        · rename_i e
          have e := Nat.eq_of_beq_eq_true e
          subst e
          exact Go.Proofs.enters_of hfn hname hbody
        · exact callable_ok h hf
      · cases h
    · cases h

theorem hdel_hset : ∀ (H : Heap) (h : Nat) (x : Bool × Ob), hdel (hset H h x) h = hdel H h
  | [], h, x => by simp [hset, hdel]
  | (g, y) :: r, h, x => by
    simp only [hset]
    cases e : Nat.beq g h with
    | true => simp only [hdel, e]
    | false => simp only [hdel, e, hdel_hset r h x]

/-- an own object that is no cells is turned -/
theorem Rep.putObj {ρ : Rho} {H : Heap} {nx : Nat} {w : World} (R : Rep C ρ H nx w) {h : Nat} {o o' : Ob} {p : Pl} (hf : hfind H h = some (true, o)) (hp : ρ h = some (some p)) (x : Obj)
    (ho : o'.R ρ (w.putObj p.a.block x) (some p)) (how : o'.own (w.putObj p.a.block x) p) : Rep C ρ (hset H h (true, o')) nx (w.putObj p.a.block x) :=
  R.write hf hp (fun _ hb => World.putObj_heap_other hb) World.putObj_size how rfl rfl rfl ho

theorem mapM_results {ρ : Rho} {H : Heap} {w : World} (hobj : ∀ h own ob, hfind H h = some (own, ob) → ∃ op, ρ h = some op ∧ ob.R ρ w op) {ts : List SV} {tmps : Array Value} (ht : SV.RL ρ ts tmps.toList)
    {φ : ResultVar → Sem Value} (f1 : ∀ t, φ (.tmp t) = pure (tmps.getD t undef)) (f2 : ∀ a t, φ (.cell a t) = (do loadVar t (← asAddr (tmps.getD a undef)))) :
    ∀ {l : List ResultVar} {a : List E} {vs : List SV}, resV P H ts l = some (a, vs) → astOk a → ∃ xs, (l.mapM φ).run P w = .ok xs w ∧ SV.RL ρ vs xs
  | [], a, vs, h, _ => by
    cases h
    exact ⟨[], by simp, by simp [SV.RL]⟩
  | .tmp t :: r, a, vs, h, ha => by
    simp only [resV] at h
    split at h
    · rename_i b l hr
      cases h
      obtain ⟨xs, h1, h2⟩ := mapM_results hobj ht f1 f2 hr ha
      refine ⟨tmps.getD t undef :: xs, by simp only [List.mapM_cons, f1, Sem.run_bind, Sem.run_pure, Result.andThen_ok, h1], ?_⟩
      simp only [SV.RL]
      refine ⟨?_, h2⟩
      have := ev_R (a := { tmps, defers := [] }) ht (.tmp t)
      simpa [ev, Act.eval] using this
    · cases h
  | .cell c t :: r, a, vs, h, ha => by
    simp only [resV] at h
    split at h
    · rename_i x b l hx hr
      cases h
      obtain ⟨a1, a2⟩ := astOk_app ha
      obtain ⟨xs, h1, h2⟩ := mapM_results hobj ht f1 f2 hr a2
      obtain ⟨v, hv, hrun⟩ := loadQ_ok (P := P) (w := w) (o := { dst := none, op := .load t (.tmp c), type := 0, pos := "", after := #[], guard := none }) (x := .tmp c) (g := ({ tmps, defers := [] } : Act).eval) (f := ev ts) rfl (ev_R (a := { tmps, defers := [] }) ht) hobj hx a1
      have hrun := hrun w (fun _ _ _ _ => rfl)
      have hld : ∃ ad, tmps.getD c undef = .pointer (some ad) ∧ (loadVar t ad).run P w = .ok v w := by
        unfold loadQ at hx
        split at hx
        · rename_i hd off hfx
          have hg := ev_R (a := { tmps, defers := [] }) ht (.tmp c)
          rw [ev] at hg
          rw [hfx] at hg
          simp only [SV.R] at hg
          obtain ⟨_, p, _, hgx⟩ := hg
          refine ⟨p.a.add off.n, by simpa [Act.eval] using hgx, ?_⟩
          unfold execOp at hrun
          simp only [Instr.loadAt, hgx, Instr.sureAddr, Sem.run_bind, Sem.run_pure, Result.andThen_ok] at hrun
          cases hl : (loadVar t (p.a.add off.n)).run P w with
          | ok v' w' =>
            rw [hl] at hrun
            simp only [Result.andThen_ok] at hrun
            cases hrun
            rfl
          | halt e w' =>
            rw [hl] at hrun
            cases hrun
        · cases hx
      obtain ⟨ad, had, hl⟩ := hld
      refine ⟨v :: xs, by simp only [List.mapM_cons, f2, had, asAddr, Sem.run_bind, Sem.run_pure, Result.andThen_ok, hl, h1], ?_⟩
      simp only [SV.RL]
      exact ⟨hv, h2⟩
    · cases h

theorem results_ok {ρ : Rho} {H : Heap} {w : World} {fn : Func} (hobj : ∀ h own ob, hfind H h = some (own, ob) → ∃ op, ρ h = some op ∧ ob.R ρ w op) {ts : List SV} {tmps : Array Value} (ht : SV.RL ρ ts tmps.toList) {a : List E} {vs : List SV} (h : resV P H ts fn.results.toList = some (a, vs)) (ha : astOk a) :
    ∃ v, (results fn tmps).run P w = .ok v w ∧ SV.R ρ (one vs) v := by
  obtain ⟨φ, f1, f2, hφ⟩ : ∃ φ : ResultVar → Sem Value, (∀ t, φ (.tmp t) = pure (tmps.getD t undef)) ∧ (∀ a t, φ (.cell a t) = (do loadVar t (← asAddr (tmps.getD a undef)))) ∧ results fn tmps = (do
      let vs ← fn.results.mapM φ
      pure (if h : vs.size = 1 then vs[0] else .tuple vs)) := ⟨_, fun _ => rfl, fun _ _ => rfl, rfl⟩
  obtain ⟨xs, h1, h2⟩ := mapM_results (P := P) hobj ht f1 f2 h ha
  refine ⟨if h : xs.toArray.size = 1 then xs.toArray[0] else .tuple xs.toArray, ?_, ?_⟩
  · rw [hφ, Array.mapM_eq_mapM_toList]
    simp only [Sem.run_bind, map_eq_pure_bind, Sem.run_pure]
    rw [h1]
    simp only [Result.andThen_ok]
  · have hlen := RL_length h2
    match vs, xs, h2, hlen with
    | [s], [x], h2, _ =>
      simp only [SV.RL] at h2
      simpa [one] using h2.1
    | [], [], _, _ => simp [one, SV.R, SV.RL]
    | s :: s2 :: r, x :: x2 :: r2, h2, _ =>
      simp only [one, SV.R]
      exact ⟨(x :: x2 :: r2).toArray, by simp, h2⟩

theorem leaves_ok {fn : Func} {tmps : Array Value} {R : Ending → World → Prop} {nx : Nat} {H : Heap} : ∀ (D : List Nat) (ρ : Rho) (w : World), ρ.d = D → Rep C ρ H nx w →
    (∀ w', Rep C ⟨ρ.f, [], ρ.o⟩ H nx w' → ∃ v, (results fn tmps).run P w' = .ok v w' ∧ R (.returned v) w') → LeavesInM (FW none) 0 P fn tmps R (D.map fun b => { target := .collected b, args := #[] }) .returning w
  | [], ρ, w, hd, R, hr => by
    obtain ⟨f, d, o⟩ := ρ
    subst hd
    exact hr w R
  | b :: r, ρ, w, hd, R, hr => by
    have hblk := R.dfr.blk b (by rw [hd]; simp)
    have R' := R.undefer (w' := w.putObj b (.deferred none)) hd (fun c hc => World.putObj_heap_other hc) World.putObj_size rfl rfl rfl
    exact ⟨by simp, .inl ⟨_, _, rfl, run_takeDeferred hblk, leaves_ok r _ _ rfl R' hr⟩⟩

theorem finish_ok {fn : Func} {st : St} {k : SV → Heap → Nat → Prop} (h : finish P fn st k) {ρ : Rho} {a : Act} {w : World} (hS : Sim C ρ st a w) {R : Ending → World → Prop}
    (hk : ∀ s v w', k s st.heap st.nx → SV.R ⟨ρ.f, [], ρ.o⟩ s v → Rep C ⟨ρ.f, [], ρ.o⟩ st.heap st.nx w' → R (.returned v) w') : LeavesInM (FW none) 0 P fn a.tmps R a.defers .returning w := by
  unfold finish at h
  have hx : Ext ρ ⟨ρ.f, [], ρ.o⟩ := fun _ _ h => h
  split at h
  · rename_i asr vs hres
    obtain ⟨ha, hk'⟩ := asts_ok h
    rw [hS.mks]
    exact leaves_ok _ _ _ rfl hS.rep fun w' hR => by
      obtain ⟨v, hv, hr⟩ := results_ok (P := P) hR.obj (RL_mono hx _ _ hS.tm) hres ha
      exact ⟨v, hv, hk _ v w' hk' hr hR⟩
  · cases h

theorem replicate_R (ρ : Rho) (n : Nat) : SV.RL ρ (List.replicate n (.lit undef)) (List.replicate n undef) :=
  RL_of_get (by simp) fun i s v h1 h2 => by
    simp only [List.getElem?_replicate] at h1 h2
    split at h1
    · rename_i hi
      rw [if_pos hi] at h2
      cases h1; cases h2
      simp only [SV.R]
    · cases h1

theorem callOk_step (hO : Good P C O) (hin : known P X.inl = true) (hout : callable P X.out = true) {n : Nat} (h1 : RunOk P C O X n) : CallOk P C O X (n + 1) := by
  intro f args H nx k h
  simp only [runCall] at h
  split at h
  · rename_i hf
    obtain ⟨fn, c, e1, e2, e3, e4⟩ := known_ok hin hf
    refine ⟨?_, Go.Proofs.enters_of e1 e2 e3⟩
    simp only [e1, e3] at h
    have hS := h1 none c _ _ e4 h
    intro ρ vs w R ro hargs hrep hk
    have hlen := RL_length hargs
    have hlen' : args.length = vs.size := by simpa using hlen
    have hx0 : Ext ρ ⟨ρ.f, [], ρ.d ++ ρ.o⟩ := fun _ _ h => h
    refine callsIn_of_wp_marks (F := FW none) e1 e3 trivial (hS ⟨ρ.f, [], ρ.d ++ ρ.o⟩ _ w _ none trivial ⟨?_, hrep.marks [] (ρ.d ++ ρ.o) (List.Sublist.refl _), rfl⟩ ?_) rfl
    · simp only [Array.toList_append, Array.toList_replicate, hlen']
      exact RL_mono hx0 _ _ (RL_append hargs (replicate_R ρ _))
    · intro e st' ρ' a' w' hk' hS' hag hle
      have key : finish P fn st' k → LeavesInM (FW none) 0 P fn a'.tmps R a'.defers .returning w' := fun hfin =>
        finish_ok hfin hS' fun s v w'' h2 h3 h4 => hk s v st'.heap st'.nx ⟨ρ'.f, ρ.d, ρ.o⟩ w'' h2 (R_mono (ρ := ⟨ρ'.f, [], ρ'.o⟩) (ρ' := ⟨ρ'.f, ρ.d, ρ.o⟩) (fun _ _ h => h) _ _ h3) (h4.marks ρ.d ρ.o (by rw [hag.o]; exact List.Sublist.refl _)) ⟨hag.f, rfl⟩ rfl hle
      cases e with
      | normal => exact key hk'
      | ret => exact key hk'
      | exit id => cases hk'
  · split at h
    · rename_i hf
      exact ⟨hO.co h, callable_ok hout hf⟩
    · cases h

theorem bind_R {ρ : Rho} : ∀ (ps : List Tmp) (vs : List SV) (xs : List Value) (tm : List SV) (tmps : Array Value), SV.RL ρ vs xs → SV.RL ρ tm tmps.toList →
    SV.RL ρ (bindT ps vs tm) ((ps.zip xs).foldl (fun (tmps : Array Value) (t, a) => tmps.setIfInBounds t a) tmps).toList
  | [], vs, xs, tm, tmps, _, h => by
    cases vs <;> simpa [bindT] using h
  | p :: ps, [], [], tm, tmps, _, h => by simpa [bindT] using h
  | p :: ps, [], x :: xs, tm, tmps, hv, h => by simp [SV.RL] at hv
  | p :: ps, v :: vs, [], tm, tmps, hv, h => by simp [SV.RL] at hv
  | p :: ps, v :: vs, x :: xs, tm, tmps, hv, h => by
    simp only [SV.RL] at hv
    simp only [bindT, List.zip_cons_cons, List.foldl_cons]
    refine bind_R ps vs xs _ _ hv.2 ?_
    rw [setT_eq, Array.toList_setIfInBounds]
    exact RL_set h p hv.1

theorem loop_at {ρ : Rho} {H : Heap} {nx : Nat} {w : World} (R : Rep C ρ H nx w) {h : Nat} {own : Bool} {s : LoopState} {pend : Option Code} {tm : List SV} {ps : Array Tmp} {assign body : Code} (hf : hfind H h = some (own, .loop s pend tm ps assign body)) :
    ∃ p fn tmps d, ρ h = some (some p) ∧ w.heap[p.a.block]? = some (.loop { state := s, pending := pend, fn, tmps, params := ps, assign, body, defers := d }) ∧ SV.RL ρ tm tmps.toList ∧ codeOk assign = true ∧ codeOk body = true := by
  obtain ⟨op, h1, p, rfl, fn, tmps, d, h2, h3, h4, h5⟩ := R.obj _ _ _ hf
  exact ⟨p, fn, tmps, d, h1, h2, h3, h4, h5⟩

theorem yieldOk_step {n : Nat} (h1 : RunOk P C O X n) : YieldOk P C O X (n + 1) := by
  intro h args H nx k hrun ρ vs w R ro hargs hrep hk
  simp only [runYield] at hrun
  split at hrun
  · rename_i s pend tm ps assign body hf
    split at hrun
    · rename_i hsz
      have hsz := Nat.eq_of_beq_eq_true hsz
      obtain ⟨p, fn, tmps, d, hp, hblk, htm, ok1, ok2⟩ := loop_at hrep hf
      have hlen := RL_length hargs
      have hlen' : vs.size = ps.size := by rw [← hsz, hlen]; simp
      refine ⟨p, fn, _, assign, body, hp, run_yield hblk hlen', roundIn_of_wpIn (F := FW ro) trivial ?_⟩
      have hfold : ((ps.zip vs).foldl (fun (tmps : Array Value) (t, a) => tmps.setIfInBounds t a) tmps) = ((ps.toList.zip vs.toList).foldl (fun (tmps : Array Value) (t, a) => tmps.setIfInBounds t a) tmps) := by
        rw [← Array.foldl_toList, Array.toList_zip]
      have hA := h1 (some h) assign _ _ ok1 hrun
      have hx0 : Ext ρ ⟨ρ.f, [], ρ.d ++ ρ.o⟩ := fun _ _ h => h
      refine hA ⟨ρ.f, [], ρ.d ++ ρ.o⟩ { tmps := _, defers := [] } w _ (some p.a.block) ⟨p, hp, rfl⟩ ⟨?_, hrep.marks [] (ρ.d ++ ρ.o) (List.Sublist.refl _), rfl⟩ ?_
      · rw [hfold]
        exact RL_mono hx0 _ _ (bind_R _ _ _ _ _ hargs htm)
      · intro e st1 ρ1 a1 w1 hk1 hS1 hag1 hle1
        cases e with
        | exit id => cases hk1
        | ret => cases hk1
        | normal =>
          simp only at hk1
          split at hk1
          · rename_i s' pend' tm' ps' assign' body' hf1
            split at hk1
            · obtain ⟨p1, fn1, tmps1, d1, hp1, hblk1, htm1, ok3, ok4⟩ := loop_at hS1.rep hf1
              have e1 : p1 = p := by
                rw [hag1.f h (hfind_lt hrep hf), hp] at hp1
                cases hp1
                rfl
              subst e1
              refine ⟨_, run_beginRound hblk1 rfl, ?_⟩
              have hrep1 := hS1.rep.putObj hf1 hp1 (.loop { state := .busy, pending := pend', fn := fn1, tmps := tmps1, params := ps', assign := assign', body := body', defers := d1 }) (o' := .loop .busy pend' tm' ps' assign' body')
                ⟨p1, rfl, fn1, tmps1, d1, World.putObj_heap_same (block_lt hblk1), htm1, ok3, ok4⟩ trivial
              have hB := h1 (some h) body _ _ ok2 hk1
              refine hB ρ1 a1 _ _ (some p1.a.block) ⟨p1, hp1, rfl⟩ ⟨hS1.tm, hrep1, hS1.mks⟩ ?_
              intro e st2 ρ2 a2 w2 hk2 hS2 hag2 hle2
              unfold endRound at hk2
              split at hk2
              · rename_i s2 pend2 tm2 ps2 as2 bd2 hf2
                obtain ⟨p2, fn2, tmps2, d2, hp2, hblk2, htm2, ok5, ok6⟩ := loop_at hS2.rep hf2
                have e2 : p2 = p1 := by
                  have hlt1 : h < st1.nx := hfind_lt hS1.rep hf1
                  rw [hag2.f h hlt1, hp1] at hp2
                  cases hp2
                  rfl
                subst e2
                have fin : ∀ (jump : Option Code) (st' : LoopState), (if jump.isNone = true then LoopState.ready else LoopState.done) = st' →
                    k (.bool (.bl jump.isNone)) (hset st2.heap h (true, .loop st' jump tm2 ps2 as2 bd2)) st2.nx →
                    ∃ v w', (Instr.endRound p2.a.block jump).run P w2 = .ok v w' ∧ R (.returned v) w' := fun jump st' hst hkk => by
                  refine ⟨_, _, run_endRound jump hblk2, ?_⟩
                  have R3 := hS2.rep.putObj hf2 hp2 (o' := .loop st' jump tm2 ps2 as2 bd2) (.loop { state := st', pending := jump, fn := fn2, tmps := tmps2, params := ps2, assign := as2, body := bd2, defers := d2 }) ⟨p2, rfl, fn2, tmps2, d2, by rw [World.putObj_heap_same (block_lt hblk2)], htm2, ok5, ok6⟩ trivial
                  have ho : ρ2.o = ρ.d ++ ρ.o := hag2.o.trans hag1.o
                  subst hst
                  exact hk _ _ _ _ ⟨ρ2.f, ρ.d, ρ.o⟩ _ hkk (by simp only [SV.R, E.b_bl]) (R3.marks ρ.d ρ.o (by rw [ho]; exact List.sublist_append_right _ _)) ⟨fun i hi => (hag2.f i (Nat.lt_of_lt_of_le hi hle1)).trans (hag1.f i hi), rfl⟩ rfl (Nat.le_trans hle1 hle2)
                cases e with
                | normal => exact fin none .ready rfl hk2
                | ret => exact fin (some .ret) .done rfl hk2
                | exit id => exact fin (some (.exit id)) .done rfl hk2
              · cases hk2
            · cases hk1
          · cases hk1
    · cases hrun
  · cases hrun
end
end Go.Sx
