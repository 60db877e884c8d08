import Derived.Test.YtpkapjlcmoikoaaSxO
import Derived.Shelf.Abstract
import Derived.RangeFuncLeaves
set_option linter.all false
/-
  The runner: what it asks.
-/
namespace Go.Sx
open Go

structure St where
  tmps : List SV
  heap : Heap
  nx : Nat
  mks : List Nat

inductive Ex where
  | normal
  | exit (id : Nat)
  | ret
def Ex.to : Ex → Exit
  | .normal => .normal
  | .exit id => .exit id
  | .ret => .ret

inductive Stuck : String → Prop
inductive StuckN : Nat → Prop
structure Br (c : E) (A B : Prop) : Prop where
  t : c.b = true → A
  f : c.b = false → B
structure Both (A B : Prop) : Prop where
  l : A
  r : B
structure Ast (c : E) (A : Prop) : Prop where
  t : c.b = true
  f : A

/-! ### what is meant -/
/-- what a frame has deferred: the marks of its loops over functions -/
def Marks (ρ : Rho) (ds : List Deferred) : Prop := ds = ρ.d.map fun b => { target := .collected b, args := #[] }

structure Sim (C : Cx) (ρ : Rho) (st : St) (a : Act) (w : World) : Prop where
  tm : SV.RL ρ st.tmps a.tmps.toList
  rep : Rep C ρ st.heap st.nx w
  mks : Marks ρ a.defers
def RoOk (ρ : Rho) : Option Nat → Option Nat → Prop
  | none, none => True
  | some h, some l => ∃ p, ρ h = some (some p) ∧ p.a.block = l
  | _, _ => False
theorem RoOk.mono {ρ ρ' : Rho} (hx : Ext ρ ρ') {rh ro : Option Nat} (h : RoOk ρ rh ro) : RoOk ρ' rh ro := by
  cases rh <;> cases ro <;> simp only [RoOk] at h ⊢
  obtain ⟨p, h1, h2⟩ := h
  exact ⟨p, hx _ _ h1, h2⟩

/-- where a run ends, seen from where it began -/
def Ends (C : Cx) (ρ : Rho) (nx : Nat) (k : Ex → St → Prop) (Q : Exit → Act → World → Prop) : Prop :=
  ∀ e st' ρ' a' w', k e st' → Sim C ρ' st' a' w' → Agree ρ ρ' nx → nx ≤ st'.nx → Q e.to a' w'
def Snd (P : Program) (C : Cx) (rh : Option Nat) (c : Code) (st : St) (k : Ex → St → Prop) : Prop :=
  ∀ ρ a w Q ro, RoOk ρ rh ro → Sim C ρ st a w → Ends C ρ st.nx k Q → c.wpIn (FW ro) 0 P Q a w

/-- a loop, from the head of a round on -/
def LoopW (F : Fence) (P : Program) (c : Code) (Q : Exit → Act → World → Prop) (a : Act) (w : World) : Prop :=
  ∀ (b : Frame) (k : List Item) (cs : List Frame), b.roundOf = F.round → F.fn b.fn → F.room (cs.length + 1 + 0) →
    ∃ e a' w', Q e a' w' ∧ ArrivesIn (Machine.fenced P F) P (lone (b.atR a (.code c :: .inLoop c :: k)) cs w) b k cs e a' w'
theorem LoopW.wpIn {F : Fence} {P : Program} {c : Code} {Q : Exit → Act → World → Prop} {a : Act} {w : World} (h : LoopW F P c Q a w) : (Code.loop c).wpIn F 0 P Q a w := by
  intro b k cs hro hb hr
  obtain ⟨e, a', w', hq, harr⟩ := h b k cs hro hb hr
  exact ⟨e, a', w', hq, .of_steps (.one (fenced_calm hb hr rfl) stepR_loop) harr⟩
theorem LoopW.round {F : Fence} {P : Program} {c : Code} {Q : Exit → Act → World → Prop} {a : Act} {w : World} (h : c.wpIn F 0 P (Exit.then (LoopW F P c Q) Q) a w) : LoopW F P c Q a w := by
  intro b k cs hro hb hr
  obtain ⟨e, a₁, w₁, hq, harr⟩ := h b (.inLoop c :: k) cs hro hb hr
  cases e with
  | normal =>
    obtain ⟨e₂, a₂, w₂, hq₂, harr₂⟩ := hq b k cs hro hb hr
    exact ⟨e₂, a₂, w₂, hq₂, .of_steps (StepsIn.trans harr (.one (fenced_calm hb hr rfl) stepR_inLoop)) harr₂⟩
  | exit id => exact ⟨_, a₁, w₁, hq, .pass (x := .inLoop c) rfl (fun _ _ => .inl (by simp)) harr⟩
  | goto l => exact ⟨_, a₁, w₁, hq, .pass (x := .inLoop c) rfl (fun _ _ => .inl (by simp)) harr⟩
  | ret => exact ⟨_, a₁, w₁, hq, .pass (x := .inLoop c) rfl (fun _ _ => .inl (by simp)) harr⟩
  | panic ch => exact ⟨_, a₁, w₁, hq, .pass (x := .inLoop c) rfl (fun _ _ => .inl (by simp)) harr⟩
  | outgrown => exact ⟨_, a₁, w₁, hq, .pass (x := .inLoop c) rfl (fun _ _ => .inl (by simp)) harr⟩

/-- a scope through which no jump to a label goes -/
theorem wpIn_scope {F : Fence} {P : Program} {c : Code} {Q : Exit → Act → World → Prop} {a : Act} {w : World} (h : c.wpIn F 0 P (fun e a w => (match e with
    | .goto _ => False
    | _ => True) ∧ Q e a w) a w) : (Code.scope c).wpIn F 0 P Q a w := by
  intro b k cs hro hb hr
  have s1 : StepsIn (Machine.fenced P F) P (lone (b.atR a (.code (.scope c) :: k)) cs w) (lone (b.atR a (.code c :: .inScope c :: k)) cs w) :=
    .one (fenced_calm hb hr rfl) (step_lone_go (by simp [stepG, stepG.exec, Frame.atR]))
  obtain ⟨e, a₁, w₁, ⟨hg, hq⟩, harr⟩ := h b (.inScope c :: k) cs hro hb hr
  cases e with
  | normal => exact ⟨.normal, a₁, w₁, hq, s1.trans (StepsIn.trans harr (.one (fenced_calm hb hr rfl) (step_lone_go (by simp [stepG, stepG.exec, Frame.atR]))))⟩
  | exit id =>
    have hx : exitTo id (.inScope c :: k) = exitTo id k := by simp [exitTo]
    exact ⟨.exit id, a₁, w₁, hq, fun k' hk => s1.trans (harr.1 k' (by rw [hx]; exact hk)), fun hr' hk => let ⟨k₁, h1, h2⟩ := harr.2 hr' (by rw [hx]; exact hk); ⟨k₁, h1, s1.trans h2⟩⟩
  | goto l => exact hg.elim
  | ret => exact ⟨_, a₁, w₁, hq, .of_steps s1 harr⟩
  | panic ch => exact ⟨_, a₁, w₁, hq, .of_steps s1 harr⟩
  | outgrown => exact ⟨_, a₁, w₁, hq, .of_steps s1 harr⟩

def SndLoop (P : Program) (C : Cx) (rh : Option Nat) (c : Code) (st : St) (k : Ex → St → Prop) : Prop :=
  ∀ ρ a w Q ro, RoOk ρ rh ro → Sim C ρ st a w → Ends C ρ st.nx k Q → LoopW (FW ro) P c Q a w
def SndCall (P : Program) (C : Cx) (f : FuncId) (args : List SV) (H : Heap) (nx : Nat) (k : SV → Heap → Nat → Prop) : Prop :=
  ∀ ρ vs w R ro, SV.RL ρ args vs.toList → Rep C ρ H nx w →
    (∀ s v H' nx' ρ' w', k s H' nx' → SV.R ρ' s v → Rep C ρ' H' nx' w' → Agree ρ ρ' nx → ρ'.d = ρ.d → nx ≤ nx' → R (.returned v) w') → CallsIn (FW ro) 0 P f vs w R

/-- a loop that is left to a proof of its own -/
structure LoopOb (P : Program) (C : Cx) (rh : Option Nat) (c : Code) (st : St) (k : Ex → St → Prop) : Prop where
  h : SndLoop P C rh c st k
/-- a call that is left to a proof of its own -/
structure CallOb (P : Program) (C : Cx) (f : FuncId) (args : List SV) (H : Heap) (nx : Nat) (k : SV → Heap → Nat → Prop) : Prop where
  h : SndCall P C f args H nx k

/-! ### the runner -/
def asts : List E → Prop → Prop
  | [], A => A
  | e :: r, A => match e with
    | .bl true => asts r A
    | e => Ast e (asts r A)
def fork (e : E) (K : Bool → Prop) : Prop :=
  match e with
  | .bl b => K b
  | e => Br e (K true) (K false)
def has (l : List Nat) (n : Nat) : Bool :=
  match l with
  | [] => false
  | a :: r => match Nat.beq a n with
    | true => true
    | false => has r n
structure Cfg where
  inl : List Nat
  out : List Nat
  unroll : Bool

def St.put (st : St) (d : Option Tmp) (v : SV) : St :=
  match d with
  | some t => ⟨setT st.tmps t v, st.heap, st.nx, st.mks⟩
  | none => st
def St.at (st : St) (H : Heap) (nx : Nat) : St := ⟨st.tmps, H, nx, st.mks⟩

/-- what a guard says -/
inductive Gd where
  | yes | no | ask (d : Tmp) (e : E) (want : Bool) | stuck
def guardOf (ops : List Oper) (o : Oper) (ts : List SV) : Gd :=
  match o.guard with
  | none => .yes
  | some (j, want) => match ops[j]? with
    | none => .no
    | some oj => match oj.dst with
      | none => .no
      | some d => match getT ts d with
        | .bool (.bl b) => match b, want with
          | true, true => .yes
          | false, false => .yes
          | _, _ => .no
        | .bool e => .ask d e want
        | .lit (.bool b) => match b, want with
          | true, true => .yes
          | false, false => .yes
          | _, _ => .no
        | .lit _ => .no
        | _ => .stuck

def newOp (P : Program) (H : Heap) (nx : Nat) (f : Operand → SV) (op : Op) : Option NR :=
  match op with
  | .alloc t => allocN P H nx t
  | .box t x => boxN H nx t (f x)
  | .buildSlice t len parts => buildSliceN P H nx t len (parts.toList.map fun (i, x) => (i, f x))
  | .store t a x => storeN P H nx t (f a) (f x)
  | .call c => match c.callee with
    | .builtin .append => match c.argTypes.toList, c.args.toList with
      | [t, t'], [s, x] => match Nat.beq t t' with
        | true => appendN P H nx t (f s) (f x)
        | false => none
      | _, _ => none
    | _ => none
  | _ => none

/-- what has been read, by which operation -/
def addR (i : Nat) (rd : Option Nat) (rds : List (Nat × Nat)) : List (Nat × Nat) :=
  match rd with
  | some h => (i, h) :: rds
  | none => rds
def okRds (H : Heap) (t : Nat) (wr : List Nat) : List (Nat × Nat) → Bool
  | [] => true
  | (k, h) :: r => match t.testBit k with
    | true => okRds H t wr r
    | false => match hfind H h, has wr h with
      | some _, false => okRds H t wr r
      | _, _ => false
/-- may it write this, those having been read that it does not wait for? -/
def okR (dr : Bool) (all : List Oper) (H : Heap) (i : Nat) (rds : List (Nat × Nat)) (wr : List Nat) : Bool :=
  match dr, wr with
  | false, _ => true
  | true, [] => true
  | true, a :: wr => okRds H ((depT all []).getD i 0) (a :: wr) rds

def bindT : List Tmp → List SV → List SV → List SV
  | t :: ts, v :: vs, tm => bindT ts vs (setT tm t v)
  | _, _, tm => tm
def resV (P : Program) (H : Heap) (ts : List SV) : List ResultVar → Option (List E × List SV)
  | [] => some ([], [])
  | .tmp t :: r => match resV P H ts r with
    | some (a, l) => some (a, getT ts t :: l)
    | none => none
  | .cell a t :: r => match loadQ P H t (getT ts a), resV P H ts r with
    | some x, some (b, l) => some (x.ast ++ b, x.v :: l)
    | _, _ => none
def one : List SV → SV
  | [v] => v
  | l => .tup l
def finish (P : Program) (fn : Func) (st : St) (k : SV → Heap → Nat → Prop) : Prop :=
  match resV P st.heap st.tmps fn.results.toList with
  | some (a, l) => asts a (k (one l) st.heap st.nx)
  | none => Stuck "results"
/-- the end of a round -/
def endRound (h : Nat) (e : Ex) (st : St) (k : SV → Heap → Nat → Prop) : Prop :=
  match hfind st.heap h with
  | some (true, .loop _ _ tm ps assign body) => match e with
    | .normal => k (.bool (.bl true)) (hset st.heap h (true, .loop .ready none tm ps assign body)) st.nx
    | .ret => k (.bool (.bl false)) (hset st.heap h (true, .loop .done (some .ret) tm ps assign body)) st.nx
    | .exit id => k (.bool (.bl false)) (hset st.heap h (true, .loop .done (some (.exit id)) tm ps assign body)) st.nx
  | _ => Stuck "round"
def jumpK (pend : Option Code) (st : St) (k : Ex → St → Prop) : Prop :=
  match pend with
  | none => k .normal st
  | some .ret => k .ret st
  | some (.exit id) => k (.exit id) st
  | some _ => Stuck "jump"
/-- the end of a loop over a function -/
def endLoop (h : Nat) (st : St) (H : Heap) (nx : Nat) (k : Ex → St → Prop) : Prop :=
  match hfind H h with
  | some (true, .loop s pend _ _ _ _) => match s with
    | .busy => Stuck "busy"
    | _ => jumpK pend (st.at (hdel H h) nx) k
  | _ => Stuck "loop"

/-- what is left to a proof: loops, calls; and who gives the plans -/
structure ObsP where
  lo : Option Nat → Code → St → (Ex → St → Prop) → Prop
  co : FuncId → List SV → Heap → Nat → (SV → Heap → Nat → Prop) → Prop
  pl : Array Oper → Option Plan
  kn : Nat → Option Bool
/-- a test whose answer is told ahead -/
structure KnownAs (e : E) (b : Bool) (A : Prop) : Prop where
  h : e.b = b
  r : A
def forkK (kn : Nat → Option Bool) (c : Operand) (e : E) (K : Bool → Prop) : Prop :=
  match e with
  | .bl b => K b
  | e => match c with
    | .tmp t => match kn t with
      | some b => KnownAs e b (K b)
      | none => Br e (K true) (K false)
    | _ => Br e (K true) (K false)
/-- a plan that is given by hand -/
structure PlanAs (ops : Array Oper) (p : Plan) (A : Prop) : Prop where
  h : planOf ops = p
  r : A
structure Obs where
  lo : Option Nat → Code → St → (Ex → St → Prop) → Prop
  co : FuncId → List SV → Heap → Nat → (SV → Heap → Nat → Prop) → Prop
def Obs.full (O : Obs) : ObsP := ⟨O.lo, O.co, fun _ => none, fun _ => none⟩
structure Good (P : Program) (C : Cx) (O : ObsP) : Prop where
  lo : ∀ {rh b st k}, O.lo rh b st k → SndLoop P C rh b st k
  co : ∀ {f args H nx k}, O.co f args H nx k → SndCall P C f args H nx k

mutual
def run (P : Program) (O : ObsP) (X : Cfg) : Nat → Option Nat → Code → St → (Ex → St → Prop) → Prop
  | 0, _, _, _, _ => Stuck "fuel"
  | n + 1, rh, c, st, k => match c with
    | .skip => k .normal st
    | .label _ => k .normal st
    | .region _ ops dr => match dr, allQ ops.toList with
      | true, false => match O.pl ops with
        | some p => PlanAs ops p (runPlan P O X n rh ops.toList p [] st (k .normal))
        | none => runPlan P O X n rh ops.toList (planOf ops) [] st (k .normal)
      | dr, _ => runOps P O X n rh dr ops.toList ops.toList 0 [] st (k .normal)
    | .seq a b => run P O X n rh a st (fun e s => match e with
      | .normal => run P O X n rh b s k
      | .exit id => k (.exit id) s
      | .ret => k .ret s)
    | .cond c t f => match ev st.tmps c with
      | .bool e => forkK O.kn c e fun b => match b with
        | true => run P O X n rh t st k
        | false => run P O X n rh f st k
      | _ => Stuck "cond"
    | .block id b => run P O X n rh b st (fun e s => match e with
      | .normal => k .normal s
      | .exit i => match Nat.beq i id with
        | true => k .normal s
        | false => k (.exit i) s
      | .ret => k .ret s)
    | .loop b => match X.unroll with
      | true => runLoop P O X n rh b st k
      | false => O.lo rh b st k
    | .exit id => k (.exit id) st
    | .ret => k .ret st
    | .rangeFunc g ps assign body => match ev st.tmps g with
      | .fn (.func f) a b => match rh with
        | none => runCall P O X n f (a ++ (.yl st.nx :: b)) ((st.nx, true, .loop .ready none st.tmps ps assign body) :: st.heap) (st.nx + 1)
            (fun _ H nx' => endLoop st.nx st H nx' k)
        | some h => match hfind st.heap h with
          | some (_, .loop ..) => runCall P O X n f (a ++ (.yl st.nx :: b)) ((st.nx, true, .loop .ready none st.tmps ps assign body) :: st.heap) (st.nx + 1)
              (fun _ H nx' => endLoop st.nx st H nx' k)
          | _ => Stuck "around"
      | _ => Stuck "range over what"
    | .scope b => run P O X n rh b st k
    | .goto _ => Stuck "goto"
    | .refuse m => Stuck m
def runLoop (P : Program) (O : ObsP) (X : Cfg) : Nat → Option Nat → Code → St → (Ex → St → Prop) → Prop
  | 0, _, _, _, _ => Stuck "fuel"
  | n + 1, rh, b, st, k => run P O X n rh b st (fun e s => match e with
    | .normal => runLoop P O X n rh b s k
    | .exit id => k (.exit id) s
    | .ret => k .ret s)
def runOps (P : Program) (O : ObsP) (X : Cfg) : Nat → Option Nat → Bool → List Oper → List Oper → Nat → List (Nat × Nat) → St → (St → Prop) → Prop
  | 0, _, _, _, _, _, _, _, _ => Stuck "fuel"
  | _ + 1, _, _, _, [], _, _, st, k => k st
  | n + 1, rh, dr, all, o :: r, i, rds, st, k => runG P O X n rh dr all i o rds st (fun rds s => runOps P O X n rh dr all r (i + 1) rds s k)
def runPlan (P : Program) (O : ObsP) (X : Cfg) : Nat → Option Nat → List Oper → Plan → List (Nat × Nat) → St → (St → Prop) → Prop
  | 0, _, _, _, _, _, _ => Stuck "fuel"
  | n + 1, rh, all, p, rds, st, k => match p with
    | .done => k st
    | .take i r => match all[i]? with
      | some o => runG P O X n rh true all i o rds st (fun rds s => runPlan P O X n rh all r rds s k)
      | none => Stuck "plan"
    | .alt i p q => match all[i]? with
      | some o => match q with
        | .stop => runG P O X n rh true all i o rds st (fun rds s => runPlan P O X n rh all p rds s k)
        | q => Both (runG P O X n rh true all i o rds st (fun rds s => runPlan P O X n rh all p rds s k)) (runPlan P O X n rh all q rds st k)
      | none => Stuck "plan"
    | .stop => True
def runG (P : Program) (O : ObsP) (X : Cfg) : Nat → Option Nat → Bool → List Oper → Nat → Oper → List (Nat × Nat) → St → (List (Nat × Nat) → St → Prop) → Prop
  | 0, _, _, _, _, _, _, _, _ => Stuck "fuel"
  | n + 1, rh, dr, all, i, o, rds, st, k => match guardOf all o st.tmps with
    | .yes => runOp P O X n rh dr all i o rds st k
    | .no => k rds (st.put o.dst (.lit undef))
    | .ask d e want => match O.kn d with
      | some b => KnownAs e b (match b, want with
        | true, true => runOp P O X n rh dr all i o rds (st.put (some d) (.bool (.bl true))) k
        | false, false => runOp P O X n rh dr all i o rds (st.put (some d) (.bool (.bl false))) k
        | true, false => k rds ((st.put (some d) (.bool (.bl true))).put o.dst (.lit undef))
        | false, true => k rds ((st.put (some d) (.bool (.bl false))).put o.dst (.lit undef)))
      | none => Br e
        (match want with
          | true => runOp P O X n rh dr all i o rds (st.put (some d) (.bool (.bl true))) k
          | false => k rds ((st.put (some d) (.bool (.bl true))).put o.dst (.lit undef)))
        (match want with
          | false => runOp P O X n rh dr all i o rds (st.put (some d) (.bool (.bl false))) k
          | true => k rds ((st.put (some d) (.bool (.bl false))).put o.dst (.lit undef)))
    | .stuck => Stuck "guard"
def runOp (P : Program) (O : ObsP) (X : Cfg) : Nat → Option Nat → Bool → List Oper → Nat → Oper → List (Nat × Nat) → St → (List (Nat × Nat) → St → Prop) → Prop
  | 0, _, _, _, _, _, _, _, _ => Stuck "fuel"
  | n + 1, _, dr, all, i, o, rds, st, k => match isQ o.op with
    | true => match quietOp P st.heap (ev st.tmps) o.op with
      | some r => asts r.ast (k (addR i r.rd rds) (st.put o.dst r.v))
      | none => Stuck o.pos
    | false => match newOp P st.heap st.nx (ev st.tmps) o.op with
      | some r => match okR dr all st.heap i rds r.wr with
        | true => asts r.ast (k rds ((st.at r.heap r.nx).put o.dst r.v))
        | false => Stuck o.pos
      | none => match o.op with
        | .call c => match c.callee with
          | .value f => match ev st.tmps f with
            | .fn (.func g) a b => runCall P O X n g (a ++ (c.args.toList.map (ev st.tmps) ++ b)) st.heap st.nx (fun v H nx => k rds ((st.at H nx).put o.dst v))
            | .yl h => runYield P O X n h (c.args.toList.map (ev st.tmps)) st.heap st.nx (fun v H nx => k rds ((st.at H nx).put o.dst v))
            | _ => Stuck o.pos
          | _ => Stuck o.pos
        | _ => Stuck o.pos
def runCall (P : Program) (O : ObsP) (X : Cfg) : Nat → FuncId → List SV → Heap → Nat → (SV → Heap → Nat → Prop) → Prop
  | 0, _, _, _, _, _ => Stuck "fuel"
  | n + 1, f, args, H, nx, k => match has X.inl f with
    | true => match P.funcs[f]? with
      | some fn => match fn.body with
        | some c => run P O X n none c ⟨args ++ List.replicate (fn.ntmps - args.length) (.lit undef), H, nx, []⟩ (fun e s => match e with
          | .normal => finish P fn s k
          | .ret => finish P fn s k
          | .exit _ => Stuck "exit")
        | none => Stuck "body"
      | none => Stuck "function"
    | false => match has X.out f with
      | true => O.co f args H nx k
      | false => StuckN f
def runYield (P : Program) (O : ObsP) (X : Cfg) : Nat → Nat → List SV → Heap → Nat → (SV → Heap → Nat → Prop) → Prop
  | 0, _, _, _, _, _ => Stuck "fuel"
  | n + 1, h, args, H, nx, k => match hfind H h with
    | some (true, .loop s _ tm ps assign body) => match s, Nat.beq args.length ps.size with
      | .ready, true => run P O X n (some h) assign ⟨bindT ps.toList args tm, H, nx, []⟩ (fun e s1 => match e with
        | .normal => match hfind s1.heap h with
          | some (true, .loop s' pend' tm' ps' assign' body') => match s' with
            | .ready => run P O X n (some h) body ⟨s1.tmps, hset s1.heap h (true, .loop .busy pend' tm' ps' assign' body'), s1.nx, s1.mks⟩ (fun e s2 => endRound h e s2 k)
            | _ => Stuck "round"
          | _ => Stuck "round"
        | _ => Stuck "assign")
      | _, _ => Stuck "yield"
    | _ => Stuck "yield"
end

/-- functions whose bodies may be walked; functions that may be called -/
def known (P : Program) (l : List Nat) : Bool :=
  match l with
  | [] => true
  | f :: r => match P.funcs[f]? with
    | some fn => match fn.name == "runtime.NumGoroutine", fn.body with
      | false, some c => match codeOk c with
        | true => known P r
        | false => false
      | _, _ => false
    | none => false
def callable (P : Program) (l : List Nat) : Bool :=
  match l with
  | [] => true
  | f :: r => match P.funcs[f]? with
    | some fn => match fn.name == "runtime.NumGoroutine", fn.body with
      | false, some _ => callable P r
      | _, _ => false
    | none => false

end Go.Sx
