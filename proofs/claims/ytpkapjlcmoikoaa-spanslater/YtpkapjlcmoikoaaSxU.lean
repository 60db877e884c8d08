import Derived.Test.YtpkapjlcmoikoaaSxT
set_option linter.all false
/-
  Calls: by another run; closed runs; from the outside.
-/
namespace Go.Sx
open Go

/-- what a run may leave -/
structure Left (P : Program) (C : Cx) (O : Obs) : Prop where
  lo : ∀ {rh b st k}, LoopOb P C rh b st k → O.lo rh b st k
  co : ∀ {f args H nx k}, CallOb P C f args H nx k → O.co f args H nx k
theorem CallOb.of_run {P : Program} {C : Cx} {X : Cfg} (hM : P.follows .mixedOrders = true) (hin : known P X.inl = true) (hout : callable P X.out = true) (n : Nat) {f : FuncId} {args : List SV} {H : Heap} {nx : Nat} {k : SV → Heap → Nat → Prop}
    (h : ∀ O, Left P C O → runCall P O.full X n f args H nx k) : CallOb P C f args H nx k :=
  ⟨((sound (O := ⟨LoopOb P C, CallOb P C, fun _ => none, fun _ => none⟩) ⟨fun h => h.h, fun h => h.h⟩ hM hin hout n).call f args H nx k (h ⟨LoopOb P C, CallOb P C⟩ ⟨fun h => h, fun h => h⟩)).1⟩
theorem Snd.of_run {P : Program} {C : Cx} {X : Cfg} (hM : P.follows .mixedOrders = true) (hin : known P X.inl = true) (hout : callable P X.out = true) (n : Nat) {rh : Option Nat} {c : Code} (hok : codeOk c = true) {st : St} {k : Ex → St → Prop}
    (h : ∀ O, Left P C O → run P O.full X n rh c st k) : Snd P C rh c st k :=
  (sound (O := ⟨LoopOb P C, CallOb P C, fun _ => none, fun _ => none⟩) ⟨fun h => h.h, fun h => h.h⟩ hM hin hout n).run rh c st k hok (h ⟨LoopOb P C, CallOb P C⟩ ⟨fun h => h, fun h => h⟩)
/-- .. where some plans are given by hand -/
theorem Snd.of_runP {P : Program} {C : Cx} {X : Cfg} (pl : Array Oper → Option Plan) (kn : Nat → Option Bool) (hM : P.follows .mixedOrders = true) (hin : known P X.inl = true) (hout : callable P X.out = true) (n : Nat) {rh : Option Nat} {c : Code} (hok : codeOk c = true) {st : St} {k : Ex → St → Prop}
    (h : ∀ O, Left P C O → run P ⟨O.lo, O.co, pl, kn⟩ X n rh c st k) : Snd P C rh c st k :=
  (sound (O := ⟨LoopOb P C, CallOb P C, pl, kn⟩) ⟨fun h => h.h, fun h => h.h⟩ hM hin hout n).run rh c st k hok (h ⟨LoopOb P C, CallOb P C⟩ ⟨fun h => h, fun h => h⟩)
theorem CallOb.mono {P : Program} {C : Cx} {f : FuncId} {args : List SV} {H : Heap} {nx : Nat} {k k' : SV → Heap → Nat → Prop} (h : CallOb P C f args H nx k) (hk : ∀ s H' nx', k s H' nx' → k' s H' nx') : CallOb P C f args H nx k' :=
  ⟨fun ρ vs w R ro h1 h2 h3 => h.h ρ vs w R ro h1 h2 fun s v H' nx' ρ' w' g1 => h3 s v H' nx' ρ' w' (hk _ _ _ g1)⟩

/-- from one world to one that has more blocks -/
theorem Rep.grow {C : Cx} {ρ : Rho} {H : Heap} {nx : Nat} {w w' : World} (R : Rep C ρ H nx w) (hb : ∀ b, b < w.heap.size → w'.heap[b]? = w.heap[b]?) (hs : w.heap.size ≤ w'.heap.size) (h1 : w'.os = w.os) (h2 : w'.tape = w.tape) (h3 : w'.output = w.output) : Rep C ρ H nx w' := by
  refine ⟨fun h own o hf => ?_, fun h o p hf hp => ?_, R.sep, R.fresh, fun h p hp => Nat.lt_of_lt_of_le (R.lt h p hp) hs, Nat.le_trans R.size hs, fun b hb' hB => ?_, h1.trans R.os, h2.trans R.tape, h3.trans R.output, ⟨R.dfr.nd, fun b hb' => ?_, R.dfr.own, R.dfr.sep⟩⟩
  · obtain ⟨op, g1, g2⟩ := R.obj h own o hf
    exact ⟨op, g1, Ob.R_grow (Ext.refl _) hb g2⟩
  · obtain ⟨g1, g2⟩ := R.own h o p hf hp
    exact ⟨Ob.own_of_block (hb _ (R.lt h p hp)) g1, g2⟩
  · rw [hb b (Nat.lt_of_lt_of_le hb' R.size)]
    exact R.frame b hb' hB
  · have h1 := R.dfr.blk b hb'
    rw [hb b (block_lt h1)]
    exact h1

theorem rep_empty (w : World) : Rep ⟨w, fun _ => False⟩ ⟨fun _ => Option.none, [], []⟩ [] 0 w :=
  ⟨(fun _ _ _ h => by cases h), (fun _ _ _ h => by cases h), (fun _ _ _ _ _ _ _ _ h => by cases h), (fun _ _ => rfl), (fun _ _ h => by cases h), Nat.le_refl _, (fun _ _ _ => rfl), rfl, rfl, rfl, ⟨by simp, (fun _ h => by simp at h), (fun _ h => by simp at h), (fun _ h => by simp at h)⟩⟩

/-- a closed run that says true may stand in any heap -/
def yes (s : SV) (_ : Heap) (_ : Nat) : Prop :=
  match s with
  | .bool (.bl true) => True
  | _ => False
theorem call_closed {P : Program} {C : Cx} {f : FuncId} {H : Heap} {nx : Nat} {k : SV → Heap → Nat → Prop} (h : ∀ C, SndCall P C f [] [] 0 yes) (hk : k (.bool (.bl true)) H nx) : CallOb P C f [] H nx k := by
  refine ⟨fun ρ vs w R ro hargs hrep hR => ?_⟩
  refine h ⟨w, fun _ => False⟩ ⟨fun _ => none, [], []⟩ vs w R ro ?_ (rep_empty w) ?_
  · cases hv : vs.toList with
    | nil => simp [SV.RL]
    | cons a r => rw [hv] at hargs; simp [SV.RL] at hargs
  · intro s v H' nx' ρ' w' hy hs hrep' _ _ _
    unfold yes at hy
    split at hy
    · simp only [SV.R, E.b_bl] at hs
      subst hs
      exact hR _ _ _ _ ρ w' hk (by simp only [SV.R, E.b_bl]) (hrep.grow (fun b hb => hrep'.frame b hb (fun x => x)) hrep'.size hrep'.os hrep'.tape hrep'.output) (Agree.refl _ _) rfl (Nat.le_refl _)
    · exact hy.elim

/-- from the outside: nothing that lay is turned -/
theorem calls_of {P : Program} {w : World} {f : FuncId} {args : List SV} {vs : Array Value} {H : Heap} {nx : Nat} {k : SV → Heap → Nat → Prop} {R : Ending → World → Prop} {ρ : Rho} (h : SndCall P ⟨w, fun _ => False⟩ f args H nx k) (hargs : SV.RL ρ args vs.toList) (hrep : Rep ⟨w, fun _ => False⟩ ρ H nx w)
    (hk : ∀ s v H' nx' ρ' w', k s H' nx' → SV.R ρ' s v → Rep ⟨w, fun _ => False⟩ ρ' H' nx' w' → R (.returned v) w') : Calls P f vs w R :=
  callsIn_wide.1 (h ρ vs w R none hargs hrep fun s v H' nx' ρ' w' g1 g2 g3 _ _ _ => hk s v H' nx' ρ' w' g1 g2 g3)

/-! ### a loop's states, out of the state at its head -/
def fndL (i : Nat) : List (Nat × SV) → Option SV
  | [] => none
  | (j, v) :: r => match Nat.beq i j with
    | true => some v
    | false => fndL i r
/-- these temporaries as they are, those as they are told; of the others nothing -/
def liveK (tm : List SV) (keep : List Nat) (l : List (Nat × SV)) : List SV := go tm 0
where go : List SV → Nat → List SV
  | [], _ => []
  | v :: r, i => (match fndL i l with
    | some x => x
    | none => match has keep i with
      | true => v
      | false => .any) :: go r (i + 1)
/-- these objects as they are -/
def keepH (l : List Nat) : Heap → Heap
  | [] => []
  | (h, x) :: r => match has l h with
    | true => (h, x) :: keepH l r
    | false => keepH l r
theorem loop_rule' {P : Program} {C : Cx} {rh : Option Nat} {b : Code} {st : St} {k : Ex → St → Prop} {ι : Type} (I : St → ι → St) (μ : ι → Nat) (x0 : ι) (σ0 : List Src) (h0 : Le st.nx σ0 st (I st x0)) (hrh : ∀ h, rh = some h → h < st.nx) (hnx : ∀ x, (I st x).nx = st.nx + σ0.length)
    (step : ∀ x, Snd P C rh b (I st x) (fun e s => match e with
      | .normal => ∃ y σ, Le st.nx σ s (I st y) ∧ μ y < μ x
      | .exit id => k (.exit id) s
      | .ret => k .ret s)) : LoopOb P C rh b st k := loop_rule (I st) μ x0 σ0 h0 hrh hnx step
end Go.Sx
