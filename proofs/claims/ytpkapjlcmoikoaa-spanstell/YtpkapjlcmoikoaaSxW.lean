import Derived.Test.YtpkapjlcmoikoaaSxR
import Derived.RangeFuncNested
import Derived.Sort.Grow
set_option linter.all false
/-
  The runner is sound.
-/
namespace Go.Sx
open Go

section
variable {P : Program} {C : Cx} {O : ObsP} {X : Cfg}

theorem codeOk_seq {a b : Code} (h : codeOk (.seq a b) = true) : codeOk a = true ∧ codeOk b = true := by
  simp only [codeOk] at h
  split at h
  · rename_i ha; exact ⟨ha, h⟩
  · cases h
theorem codeOk_cond {c : Operand} {a b : Code} (h : codeOk (.cond c a b) = true) : codeOk a = true ∧ codeOk b = true := by
  simp only [codeOk] at h
  split at h
  · rename_i ha; exact ⟨ha, h⟩
  · cases h
theorem codeOk_range {g : Operand} {ps : Array Tmp} {a b : Code} (h : codeOk (.rangeFunc g ps a b) = true) : codeOk a = true ∧ codeOk b = true := by
  simp only [codeOk] at h
  split at h
  · rename_i ha; exact ⟨ha, h⟩
  · cases h

theorem loopOk_step {n : Nat} (h1 : RunOk P C O X n) (h2 : LoopOk P C O X n) : LoopOk P C O X (n + 1) := by
  intro rh b st k hok h
  simp only [runLoop] at h
  intro ρ a w Q ro hro hS hk
  refine LoopW.round (h1 rh b st _ hok h ρ a w _ ro hro hS ?_)
  intro e st' ρ' a' w' hk' hS' hag hle
  cases e with
  | normal => exact h2 rh b st' k hok hk' ρ' a' w' Q ro (hro.mono (Ext.of_agree hS.rep hag)) hS' fun e st2 ρ2 a2 w2 g1 g2 g3 g4 => hk e st2 ρ2 a2 w2 g1 g2 (hag.trans g3 hle) (Nat.le_trans hle g4)
  | exit id => exact hk _ _ _ _ _ hk' hS' hag hle
  | ret => exact hk _ _ _ _ _ hk' hS' hag hle

/-- the end of a loop over a function -/
theorem endLoop_ok {h : Nat} {st : St} {H : Heap} {nx : Nat} {k : Ex → St → Prop} (hend : endLoop h st H nx k) {ρ : Rho} {a : Act} {w : World} (hrep : Rep C ρ H nx w) (htm : SV.RL ρ st.tmps a.tmps.toList) (hmk : Marks ρ a.defers)
    {p : Pl} (hp : ρ h = some (some p)) {Q : Exit → Act → World → Prop} {ro : Option Nat} (hk : ∀ e st' w', k e st' → Sim C ρ st' a w' → st'.nx = nx → Q e.to a w') :
    ∃ jump w', (Instr.endLoop p.a.block).run P w = .ok jump w' ∧ (match jump with
       | none => Q .normal a w'
       | some c => c.wpIn (FW ro) 0 P Q a w') := by
  unfold endLoop at hend
  split at hend
  · rename_i s pend tm ps assign body hf
    obtain ⟨p', fn, tmps, d, hp', hblk, htm', ok1, ok2⟩ := loop_at hrep hf
    rw [hp] at hp'
    cases hp'
    have hrep' : Rep C ρ (hdel H h) nx (w.putObj p.a.block (.loop { state := .exhausted, pending := pend, fn, tmps, params := ps, assign, body, defers := d })) := by
      have := (hrep.putObj hf hp (.loop { state := .exhausted, pending := pend, fn, tmps, params := ps, assign, body, defers := d }) (o' := .loop .exhausted pend tm ps assign body) ⟨p, rfl, fn, tmps, d, World.putObj_heap_same (block_lt hblk), htm', ok1, ok2⟩ trivial).del h
      rw [hdel_hset] at this
      exact this
    have hS : Sim C ρ (st.at (hdel H h) nx) a (w.putObj p.a.block (.loop { state := .exhausted, pending := pend, fn, tmps, params := ps, assign, body, defers := d })) := ⟨htm, hrep', hmk⟩
    have main : s ≠ .busy → jumpK pend (st.at (hdel H h) nx) k → ∃ jump w', (Instr.endLoop p.a.block).run P w = .ok jump w' ∧ (match jump with
          | none => Q .normal a w'
          | some c => c.wpIn (FW ro) 0 P Q a w') := fun hs hm => by
      refine ⟨pend, _, run_endLoop hblk hs, ?_⟩
      generalize hdel H h = H' at hm hS
      unfold jumpK at hm
      split at hm
      · exact hk _ _ _ hm hS rfl
      · exact wpIn_ret (hk _ _ _ hm hS rfl)
      · exact wpIn_exit (hk _ _ _ hm hS rfl)
      · cases hm
    split at hend
    · cases hend
    · rename_i hs
      exact main hs hend
  · cases hend

theorem runOk_step (hO : Good P C O) (hM : P.follows .mixedOrders = true) {n : Nat} (h1 : RunOk P C O X n) (h2 : OpsOk P C O X n) (hP : PlanOk P C O X n) (h3 : LoopOk P C O X n) (h4 : CallOk P C O X n) : RunOk P C O X (n + 1) := by
  intro rh c st k hok h ρ a w Q ro hro hS hk
  cases c with
  | skip =>
    simp only [run] at h
    exact wpIn_skip (hk _ _ _ _ _ h hS (Agree.refl _ _) (Nat.le_refl _))
  | label l =>
    simp only [run] at h
    exact wpIn_label (hk _ _ _ _ _ h hS (Agree.refl _ _) (Nat.le_refl _))
  | region id ops dr =>
    unfold run at h
    simp only at h
    have fin : ∀ st' ρ' a' w', k .normal st' → Sim C ρ' st' a' w' → Agree ρ ρ' st.nx → st.nx ≤ st'.nx → Calm Q .normal a' w' := fun st' ρ' a' w' g1 g2 g3 g4 => hk .normal st' ρ' a' w' g1 g2 g3 g4
    have pins : PinsOk ρ [] (fun _ => []) := fun k x hx => by cases hx
    split at h
    · rename_i _ hall
      refine region_of_plan hM (by simpa [codeOk, regOk, hall] using hok) ?_
      have h : runPlan P O X n rh ops.toList (planOf ops) [] st (k .normal) := by
        split at h
        · rename_i p hp
          rw [h.h]
          exact h.r
        · exact h
      exact hP rh ops _ [] st _ h ρ a _ _ (Calm Q) ro hro ⟨hS.tm, hS.rep.drew, hS.mks⟩ pins fin
    · rename_i d1 d2 hnot
      clear d2
      rename_i dr
      refine region_of_walk (fun hd => ⟨hM, ?_⟩) fun G hG => ?_
      · subst hd
        have hall : allQ ops.toList = true := by
          cases hb : allQ ops.toList with
          | true => rfl
          | false => exact (hnot rfl hb).elim
        simpa [codeOk, regOk, hall] using hok
      · refine h2 rh _ ops _ 0 [] st _ h ρ a _ _ (Calm Q) ro G hro hG (Nat.zero_le _) rfl ?_ pins fin
        cases dr with
        | true => exact ⟨hS.tm, hS.rep.drew, hS.mks⟩
        | false => exact hS
  | seq x y =>
    simp only [run] at h
    obtain ⟨ok1, ok2⟩ := codeOk_seq hok
    refine wpIn_seq (h1 rh x st _ ok1 h ρ a w _ ro hro hS ?_)
    intro e st' ρ' a' w' hk' hS' hag hle
    cases e with
    | normal => exact h1 rh y st' k ok2 hk' ρ' a' w' Q ro (hro.mono (Ext.of_agree hS.rep hag)) hS' fun e st2 ρ2 a2 w2 g1 g2 g3 g4 => hk e st2 ρ2 a2 w2 g1 g2 (hag.trans g3 hle) (Nat.le_trans hle g4)
    | exit id => exact hk _ _ _ _ _ hk' hS' hag hle
    | ret => exact hk _ _ _ _ _ hk' hS' hag hle
  | cond c t f =>
    simp only [run] at h
    obtain ⟨ok1, ok2⟩ := codeOk_cond hok
    have hc := ev_R hS.tm c
    split at h
    · rename_i e he
      rw [he] at hc
      simp only [SV.R] at hc
      have h' := forkK_ok h
      refine wpIn_cond (t := e.b) hc ?_
      cases hb : e.b with
      | true =>
        rw [hb] at h'
        exact h1 rh t st k ok1 h' ρ a w Q ro hro hS hk
      | false =>
        rw [hb] at h'
        exact h1 rh f st k ok2 h' ρ a w Q ro hro hS hk
    · cases h
  | block id b =>
    simp only [run] at h
    refine wpIn_block (h1 rh b st _ hok h ρ a w _ ro hro hS ?_)
    intro e st' ρ' a' w' hk' hS' hag hle
    cases e with
    | normal => exact hk _ _ _ _ _ hk' hS' hag hle
    | exit i =>
      simp only at hk'
      simp only [Ex.to, Exit.inBlock]
      split at hk'
      · rename_i e
        have e := Nat.eq_of_beq_eq_true e
        rw [if_pos e]
        exact hk _ _ _ _ _ hk' hS' hag hle
      · rename_i e
        have e := Nat.ne_of_beq_eq_false e
        rw [if_neg e]
        exact hk _ _ _ _ _ hk' hS' hag hle
    | ret => exact hk _ _ _ _ _ hk' hS' hag hle
  | loop b =>
    simp only [run] at h
    refine LoopW.wpIn ?_
    split at h
    · exact h3 rh b st k hok h ρ a w Q ro hro hS hk
    · exact hO.lo h ρ a w Q ro hro hS hk
  | exit id =>
    simp only [run] at h
    exact wpIn_exit (hk _ _ _ _ _ h hS (Agree.refl _ _) (Nat.le_refl _))
  | ret =>
    simp only [run] at h
    exact wpIn_ret (hk _ _ _ _ _ h hS (Agree.refl _ _) (Nat.le_refl _))
  | rangeFunc g ps assign body =>
    simp only [run] at h
    obtain ⟨ok1, ok2⟩ := codeOk_range hok
    have hg := ev_R hS.tm g
    split at h
    · rename_i f x y hge
      rw [hge] at hg
      simp only [SV.R] at hg
      obtain ⟨xs, ys, hgv, hx, hy⟩ := hg
      split at h
      · -- an outermost loop
        have hro' : ro = none := by
          cases ro with
          | none => rfl
          | some l => exact hro.elim
        subst hro'
        obtain ⟨hcall, hent⟩ := h4 _ _ _ _ _ h
        refine wpIn_rangeFunc fun fn _ => ⟨_, _, _, { target := .fn (.func f) ys, args := xs ++ #[.func (.yield (w.heap.size + 1)) #[] #[]] }, (w.alloc (.deferred (some []))).alloc (.loop { state := .ready, pending := none, fn, tmps := a.tmps, params := ps, assign, body, defers := w.heap.size }),
          f, xs ++ #[.func (.yield (w.heap.size + 1)) #[] #[]] ++ ys, (w.alloc (.deferred (some []))).alloc (.loop { state := .ready, pending := none, fn, tmps := a.tmps, params := ps, assign, body, defers := w.heap.size }),
          run_enterLoop_outer fn a.tmps ps assign body, ?_, fun _ _ => trivial, ?_, fun hd => by simp [FW, Fence.wide] at hd, ?_⟩
        · simp only [resolve, hgv, Deferred.ofValue, Sem.run_pure]
          simp [Act.eval]
        · simp only [invoke]
          exact hent _ _
        · -- the two blocks
          have R1 := hS.rep.defer
          have x1 : Ext ρ ⟨ρ.f, w.heap.size :: ρ.d, ρ.o⟩ := fun _ _ h => h
          have x2 := Ext.rset (R1.fresh st.nx (Nat.le_refl _)) (some (⟨⟨(w.alloc (.deferred (some []))).heap.size, 0, none⟩, 0⟩ : Pl))
          have R2 := R1.allocO (.loop { state := .ready, pending := none, fn, tmps := a.tmps, params := ps, assign, body, defers := w.heap.size }) 0 (.loop .ready none st.tmps ps assign body)
            ⟨_, rfl, fn, a.tmps, w.heap.size, World.alloc_heap_new _ _, RL_mono (x1.trans x2) _ _ hS.tm, ok1, ok2⟩ trivial
          have hag := Agree.rset ⟨ρ.f, w.heap.size :: ρ.d, ρ.o⟩ (Nat.le_refl st.nx) (some (⟨⟨(w.alloc (.deferred (some []))).heap.size, 0, none⟩, 0⟩ : Pl))
          have p2 : rset ⟨ρ.f, w.heap.size :: ρ.d, ρ.o⟩ st.nx (some ⟨⟨(w.alloc (.deferred (some []))).heap.size, 0, none⟩, 0⟩) st.nx = some (some ⟨⟨(w.alloc (.deferred (some []))).heap.size, 0, none⟩, 0⟩) := by simp [rset]
          refine hcall _ _ _ _ none ?_ R2 ?_
          · simp only [Array.toList_append, List.append_assoc]
            refine RL_append (RL_mono (x1.trans x2) _ _ hx) ?_
            simp only [List.cons_append, List.nil_append, SV.RL]
            refine ⟨?_, RL_mono (x1.trans x2) _ _ hy⟩
            simp only [SV.R]
            exact ⟨_, p2, by simp⟩
          · intro s v H' nx' ρ' w' hend hs hrep hag' hdd hle
            have hx' := Ext.of_agree R2 hag'
            have hp' : ρ' st.nx = some (some ⟨⟨(w.alloc (.deferred (some []))).heap.size, 0, none⟩, 0⟩) := (hag'.f _ (by omega)).trans p2
            have hmk : Marks ρ' ([{ target := .collected w.heap.size, args := #[] }] ++ a.defers) := by
              have hm := hS.mks
              unfold Marks at *
              rw [hdd, hm]
              rfl
            have := endLoop_ok (a := { a with defers := [{ target := .collected w.heap.size, args := #[] }] ++ a.defers }) (Q := Q) (ro := none) (P := P) hend hrep (RL_mono hx' _ _ (RL_mono (x1.trans x2) _ _ hS.tm))
              hmk hp' fun e st' w'' g1 g2 g3 => hk _ _ _ _ _ g1 g2 ⟨fun i hi => (hag'.f i (by omega)).trans (hag.f i hi), hag'.o⟩ (by rw [g3]; omega)
            obtain ⟨jump, w4, e1, e2⟩ := this
            refine ⟨jump, w4, ?_, e2⟩
            have : (w.alloc (.deferred (some []))).heap.size = w.heap.size + 1 := by simp
            rw [this] at e1
            exact e1
      · -- a loop within a round
        rename_i hd
        split at h
        · rename_i own0 s0 pend0 tm0 ps0 as0 bd0 hf0
          obtain ⟨l0, hro', p0, hp0, hl0⟩ : ∃ l, ro = some l ∧ ∃ p, ρ hd = some (some p) ∧ p.a.block = l := by
            cases ro with
            | none => exact hro.elim
            | some l => exact ⟨l, rfl, hro⟩
          subst hro'
          obtain ⟨p0', fn0, tmps0, d0, hp0', hblk0, _⟩ := loop_at hS.rep hf0
          rw [hp0] at hp0'
          cases hp0'
          rw [hl0] at hblk0
          obtain ⟨hcall, hent⟩ := h4 _ _ _ _ _ h
          refine wpIn_rangeFunc fun fn _ => ⟨_, _, _, { target := .fn (.func f) ys, args := xs ++ #[.func (.yield w.heap.size) #[] #[]] }, w.alloc (.loop { state := .ready, pending := none, fn, tmps := a.tmps, params := ps, assign, body, defers := d0 }),
            f, xs ++ #[.func (.yield w.heap.size) #[] #[]] ++ ys, w.alloc (.loop { state := .ready, pending := none, fn, tmps := a.tmps, params := ps, assign, body, defers := d0 }),
            run_enterLoop_inner hblk0 fn a.tmps ps assign body, ?_, fun _ _ => trivial, ?_, fun hd => by simp [FW, Fence.wide] at hd, ?_⟩
          · simp only [resolve, hgv, Deferred.ofValue, Sem.run_pure]
            simp [Act.eval]
          · simp only [invoke]
            exact hent _ _
          · have x2 := Ext.rset (hS.rep.fresh st.nx (Nat.le_refl _)) (some (⟨⟨w.heap.size, 0, none⟩, 0⟩ : Pl))
            have R2 := hS.rep.allocO (.loop { state := .ready, pending := none, fn, tmps := a.tmps, params := ps, assign, body, defers := d0 }) 0 (.loop .ready none st.tmps ps assign body)
              ⟨_, rfl, fn, a.tmps, d0, World.alloc_heap_new _ _, RL_mono x2 _ _ hS.tm, ok1, ok2⟩ trivial
            have hag := Agree.rset ρ (Nat.le_refl st.nx) (some (⟨⟨w.heap.size, 0, none⟩, 0⟩ : Pl))
            have p2 : rset ρ st.nx (some ⟨⟨w.heap.size, 0, none⟩, 0⟩) st.nx = some (some ⟨⟨w.heap.size, 0, none⟩, 0⟩) := by simp [rset]
            refine hcall _ _ _ _ _ ?_ R2 ?_
            · simp only [Array.toList_append, List.append_assoc]
              refine RL_append (RL_mono x2 _ _ hx) ?_
              simp only [List.cons_append, List.nil_append, SV.RL]
              refine ⟨?_, RL_mono x2 _ _ hy⟩
              simp only [SV.R]
              exact ⟨_, p2, rfl⟩
            · intro s v H' nx' ρ' w' hend hs hrep hag' hdd hle
              have hx' := Ext.of_agree R2 hag'
              have hp' : ρ' st.nx = some (some ⟨⟨w.heap.size, 0, none⟩, 0⟩) := (hag'.f _ (by omega)).trans p2
              have hmk : Marks ρ' ([] ++ a.defers) := by
                have hm := hS.mks
                unfold Marks at *
                rw [hdd]
                exact hm
              exact endLoop_ok (a := { a with defers := [] ++ a.defers }) (Q := Q) (ro := some l0) (P := P) hend hrep (RL_mono hx' _ _ (RL_mono x2 _ _ hS.tm))
                hmk hp' fun e st' w'' g1 g2 g3 => hk _ _ _ _ _ g1 g2 (hag.trans hag' (by omega)) (by rw [g3]; omega)
        · cases h
    · cases h
  | scope b =>
    simp only [run] at h
    refine wpIn_scope (h1 rh b st _ hok h ρ a w _ ro hro hS fun e st' ρ' a' w' g1 g2 g3 g4 => ⟨?_, hk e st' ρ' a' w' g1 g2 g3 g4⟩)
    cases e <;> exact trivial
  | goto l => simp only [run] at h; cases h
  | refuse m => simp only [run] at h; cases h

structure AllOk (P : Program) (C : Cx) (O : ObsP) (X : Cfg) (n : Nat) : Prop where
  run : RunOk P C O X n
  loop : LoopOk P C O X n
  ops : OpsOk P C O X n
  plan : PlanOk P C O X n
  gn : GnOk P C O X n
  op : OpOk P C O X n
  call : CallOk P C O X n
  yield : YieldOk P C O X n
theorem sound (hO : Good P C O) (hM : P.follows .mixedOrders = true) (hin : known P X.inl = true) (hout : callable P X.out = true) : ∀ n, AllOk P C O X n
  | 0 => ⟨(fun _ _ _ _ _ h => by simp only [run] at h; cases h), (fun _ _ _ _ _ h => by simp only [runLoop] at h; cases h), (fun _ _ _ _ _ _ _ _ h => by simp only [runOps] at h; cases h), (fun _ _ _ _ _ _ h => by simp only [runPlan] at h; cases h), (fun _ _ _ _ _ _ _ _ h => by simp only [runG] at h; cases h), (fun _ _ _ _ _ _ _ _ h => by simp only [runOp] at h; cases h), (fun _ _ _ _ _ h => by simp only [runCall] at h; cases h), (fun _ _ _ _ _ h => by simp only [runYield] at h; cases h)⟩
  | n + 1 =>
    have ih := sound hO hM hin hout n
    ⟨runOk_step hO hM ih.run ih.ops ih.plan ih.loop ih.call, loopOk_step ih.run ih.loop, opsOk_step ih.gn ih.ops, planOk_step ih.gn ih.plan, gnOk_step ih.op, opOk_step ih.call ih.yield, callOk_step hO hin hout ih.run, yieldOk_step ih.run⟩
end
end Go.Sx
/-
  A state that says less: handles under other numbers. The loop rule.
-/
namespace Go.Sx
open Go

/-- where a handle of the weaker state comes from: the same; another; an empty row -/
inductive Src where
  | of (h : Nat)
  | nil
/-- handles below 'base' are as they were; base + i is what the list says -/
def srcOf (base : Nat) (σ : List Src) (h : Nat) : Option Src :=
  match Nat.blt h base with
  | true => some (.of h)
  | false => σ[h - base]?
def pickR (ρ : Rho) : Option Src → Option (Option Pl)
  | some (.of g) => ρ g
  | some .nil => some none
  | none => none
def rhoOf (base : Nat) (σ : List Src) (ρ : Rho) : Rho := { ρ with f := fun h => pickR ρ (srcOf base σ h) }

/-- equations that are left to a proof -/
structure EqI (a b : E) : Prop where
  h : a.i = b.i
structure EqB (a b : E) : Prop where
  h : a.b = b.b
structure EqO (a b : Off) : Prop where
  h : a.n = b.n
mutual
/-- 's' may be taken for 't' -/
def SVle (S : Nat → Option Src) : SV → SV → Prop
  | _, .any => True
  | .int k e, .int k' e' => k = k' ∧ EqI e e'
  | .bool e, .bool e' => EqB e e'
  | .lit v, .lit v' => v = v'
  | .lit v, .sl h' _ o' len' cap' => v = .slice none 0 0 ∧ S h' = some .nil ∧ EqI len' (.lit 0) ∧ (∀ e, cap' = some e → e.i = 0) ∧ o'.pos
  | .ptr h o, .ptr h' o' => S h' = some (.of h) ∧ EqO o o' ∧ o'.pos
  | .sl h k o len cap, .sl h' k' o' len' cap' => S h' = some (.of h) ∧ k = k' ∧ EqO o o' ∧ o'.pos ∧ EqI len len' ∧ (∀ e', cap' = some e' → ∃ e, cap = some e ∧ e.i = e'.i)
  | .mp h, .mp h' => S h' = some (.of h)
  | .yl h, .yl h' => S h' = some (.of h)
  | .fn f a b, .fn f' a' b' => f = f' ∧ SVleL S a a' ∧ SVleL S b b'
  | .agg l, .agg l' => SVleL S l l'
  | .tup l, .tup l' => SVleL S l l'
  | _, _ => False
def SVleL (S : Nat → Option Src) : List SV → List SV → Prop
  | [], [] => True
  | a :: l, b :: r => SVle S a b ∧ SVleL S l r
  | _, _ => False
end

def Oble (S : Nat → Option Src) : Ob → Ob → Prop
  | .cells _ vs, .cells _ vs' => SVleL S vs vs'
  | .cells _ vs, .row _ k n F => 0 ≤ n.i ∧ n.i.toNat * k ≤ vs.length ∧ ∀ (e : E) (j : Nat), 0 ≤ e.i → e.i < n.i → j < k → SVle S (getT vs (e.i.toNat * k + j)) (F j e)
  | .row _ k n F, .row _ k' n' F' => k = k' ∧ EqI n n' ∧ ∀ (e e' : E) (j : Nat), e.i = e'.i → 0 ≤ e.i → e.i < n.i → j < k → SVle S (F j e) (F' j e')
  | .loop s pend tm ps asg bd, .loop s' pend' tm' ps' asg' bd' => s = s' ∧ pend = pend' ∧ SVleL S tm tm' ∧ ps = ps' ∧ asg = asg' ∧ bd = bd'
  | .dfr a, .dfr b => a = b
  | _, _ => False

/-- an object of the weaker heap has its source -/
def Hle (S : Nat → Option Src) (H : Heap) : Heap → Prop
  | [] => True
  | (h, own, o) :: r => (match S h with
    | some (.of g) => (match hfind H g with
      | some (own', o') => (own = true → own' = true) ∧ Oble S o' o
      | none => False)
    | some .nil => (match o with
      | .row _ _ n _ => EqI n (.lit 0)
      | _ => False)
    | none => False) ∧ Hle S H r
/-- no two of the weaker heap's have one source -/
def nodup (S : Nat → Option Src) (H : Heap) : Bool :=
  go (H.map fun x => S x.1)
where
  go : List (Option Src) → Bool
    | [] => true
    | some (.of g) :: r => match has' g r with
      | true => false
      | false => go r
    | _ :: r => go r
  has' (g : Nat) : List (Option Src) → Bool
    | [] => false
    | some (.of h) :: r => match Nat.beq g h with
      | true => true
      | false => has' g r
    | _ :: r => has' g r
def marksOk (base : Nat) : List Nat → Bool
  | [] => true
  | h :: r => match Nat.blt h base with
    | true => marksOk base r
    | false => false

/-- 's' may be taken for 't': 't' has the handles below 'base', and those that 'σ' names -/
structure Le (base : Nat) (σ : List Src) (s t : St) : Prop where
  tm : SVleL (srcOf base σ) s.tmps t.tmps
  hp : Hle (srcOf base σ) s.heap t.heap
  nd : nodup (srcOf base σ) t.heap = true
  nx : t.nx = base + σ.length
  mks : s.mks = t.mks ∧ marksOk base t.mks = true

theorem rhoOf_of {base : Nat} {σ : List Src} {ρ : Rho} {h' h : Nat} (e : srcOf base σ h' = some (.of h)) : rhoOf base σ ρ h' = ρ h := by
  simp only [rhoOf, e, pickR]
theorem rhoOf_nil {base : Nat} {σ : List Src} {ρ : Rho} {h' : Nat} (e : srcOf base σ h' = some .nil) : rhoOf base σ ρ h' = some none := by
  simp only [rhoOf, e, pickR]

mutual
theorem SVle_R {base : Nat} {σ : List Src} {ρ : Rho} : ∀ (s t : SV) (v : Value), SVle (srcOf base σ) s t → SV.R ρ s v → SV.R (rhoOf base σ ρ) t v
  | s, .any, v, h, hr => by simp only [SV.R]
  | s, .int k e, v, h, hr => by
    cases s <;> simp only [SVle] at h
    simp only [SV.R] at hr ⊢
    rw [hr, h.1, h.2.h]
  | s, .bool e, v, h, hr => by
    cases s <;> simp only [SVle] at h
    simp only [SV.R] at hr ⊢
    rw [hr, h.h]
  | s, .lit x, v, h, hr => by
    cases s <;> simp only [SVle] at h
    simp only [SV.R] at hr ⊢
    rw [hr, h]
  | s, .ptr h' o', v, h, hr => by
    cases s <;> simp only [SVle] at h
    simp only [SV.R] at hr ⊢
    obtain ⟨_, p, h1, h2⟩ := hr
    exact ⟨h.2.2, p, (rhoOf_of h.1).trans h1, by rw [h2, h.2.1.h]⟩
  | s, .sl h' k' o' len' cap', v, h, hr => by
    cases s <;> simp only [SVle] at h
    · simp only [SV.R] at hr ⊢
      obtain ⟨rfl, h1, ⟨h2⟩, h3, h4⟩ := h
      rw [E.i_lit] at h2
      subst hr
      exact ⟨h4, by rw [h2]; exact Int.le_refl _, none, none, 0, rhoOf_nil h1, by rw [h2]; rfl, by rw [h2]; simp, by simp [maxLen], fun e he => h3 e he, fun hc => absurd rfl hc⟩
    · simp only [SV.R] at hr ⊢
      obtain ⟨h1, rfl, ⟨h3⟩, h4, ⟨h5⟩, h6⟩ := h
      obtain ⟨_, g0, op, oa, c, g1, g2, g3, g4, g5, g6⟩ := hr
      refine ⟨h4, by rw [← h5]; exact g0, op, oa, c, (rhoOf_of h1).trans g1, by rw [g2, h5], by rw [← h5]; exact g3, g4, fun e he => ?_, fun hc => ?_⟩
      · obtain ⟨e1, e2, e3⟩ := h6 e he
        rw [← e3]
        exact g5 e1 e2
      · rw [← h3]
        exact g6 hc
  | s, .mp h', v, h, hr => by
    cases s <;> simp only [SVle] at h
    simp only [SV.R] at hr ⊢
    obtain ⟨p, h1, h2⟩ := hr
    exact ⟨p, (rhoOf_of h).trans h1, h2⟩
  | s, .yl h', v, h, hr => by
    cases s <;> simp only [SVle] at h
    simp only [SV.R] at hr ⊢
    obtain ⟨p, h1, h2⟩ := hr
    exact ⟨p, (rhoOf_of h).trans h1, h2⟩
  | s, .fn f' a' b', v, h, hr => by
    cases s <;> simp only [SVle] at h
    simp only [SV.R] at hr ⊢
    obtain ⟨x, y, h1, h2, h3⟩ := hr
    exact ⟨x, y, by rw [h1, h.1], SVleL_R _ _ _ h.2.1 h2, SVleL_R _ _ _ h.2.2 h3⟩
  | s, .agg l', v, h, hr => by
    cases s <;> simp only [SVle] at h
    simp only [SV.R] at hr ⊢
    obtain ⟨x, h1, h2⟩ := hr
    exact ⟨x, h1, SVleL_R _ _ _ h h2⟩
  | s, .tup l', v, h, hr => by
    cases s <;> simp only [SVle] at h
    simp only [SV.R] at hr ⊢
    obtain ⟨x, h1, h2⟩ := hr
    exact ⟨x, h1, SVleL_R _ _ _ h h2⟩
theorem SVleL_R {base : Nat} {σ : List Src} {ρ : Rho} : ∀ (s t : List SV) (v : List Value), SVleL (srcOf base σ) s t → SV.RL ρ s v → SV.RL (rhoOf base σ ρ) t v
  | [], [], v, h, hr => by
    cases v with
    | nil => simp [SV.RL]
    | cons x r => simp [SV.RL] at hr
  | [], b :: r, v, h, hr => by simp [SVleL] at h
  | a :: l, [], v, h, hr => by simp [SVleL] at h
  | a :: l, b :: r, v, h, hr => by
    simp only [SVleL] at h
    cases v with
    | nil => simp [SV.RL] at hr
    | cons x vs =>
      simp only [SV.RL] at hr ⊢
      exact ⟨SVle_R _ _ _ h.1 hr.1, SVleL_R _ _ _ h.2 hr.2⟩
end
theorem SVleL_length {S : Nat → Option Src} : ∀ {s t : List SV}, SVleL S s t → s.length = t.length
  | [], [], _ => rfl
  | a :: l, b :: r, h => by
    simp only [SVleL] at h
    simp [SVleL_length h.2]
  | [], _ :: _, h => by simp [SVleL] at h
  | _ :: _, [], h => by simp [SVleL] at h
theorem SVleL_get {S : Nat → Option Src} : ∀ {s t : List SV}, SVleL S s t → ∀ (j : Nat) y, t[j]? = some y → ∃ x, s[j]? = some x ∧ SVle S x y
  | a :: l, b :: r, h, 0, y, hy => by
    simp only [SVleL] at h
    simp at hy
    subst hy
    exact ⟨a, rfl, h.1⟩
  | a :: l, b :: r, h, j+1, y, hy => by
    simp only [SVleL] at h
    simpa using SVleL_get h.2 j y (by simpa using hy)
  | [], [], _, j, y, hy => by simp at hy
  | [], _ :: _, h, _, _, _ => by simp [SVleL] at h
  | _ :: _, [], h, _, _, _ => by simp [SVleL] at h

theorem Oble_R {base : Nat} {σ : List Src} {ρ : Rho} {w : World} {o o' : Ob} {op : Option Pl} (h : Oble (srcOf base σ) o o') (ho : o.R ρ w op) : o'.R (rhoOf base σ ρ) w op := by
  cases o <;> cases o' <;> simp only [Oble] at h
  · obtain ⟨p, rfl, hl, hc⟩ := ho
    refine ⟨p, rfl, by rw [← SVleL_length h]; exact hl, fun j s hs => ?_⟩
    obtain ⟨x, h1, h2⟩ := SVleL_get h j s hs
    obtain ⟨v, g1, g2, g3⟩ := hc j x h1
    exact ⟨v, g1, g2, SVle_R _ _ _ h2 g3⟩
  · obtain ⟨h0, hl, hF⟩ := h
    obtain ⟨p, rfl, hpn, hc⟩ := ho
    refine ⟨⟨h0, fun p' hp' => by cases hp'; omega⟩, fun e j h1 h2 h3 => ?_⟩
    rename_i k n F
    have hidx : e.i.toNat * k + j < n.i.toNat * k := by
      have : (e.i.toNat + 1) * k ≤ n.i.toNat * k := Nat.mul_le_mul_right _ (by omega)
      rw [Nat.add_mul] at this
      omega
    rename_i vs _
    have hs := List.getElem?_eq_getElem (l := vs) (i := e.i.toNat * k + j) (by omega)
    obtain ⟨x, g1, g2, g3⟩ := hc _ _ hs
    refine ⟨p, x, rfl, g1, g2, SVle_R _ _ _ (hF e j h1 h2 h3) ?_⟩
    rw [getT_eq]
    simpa [List.getD, hs] using g3
  · obtain ⟨rfl, ⟨hn⟩, hF⟩ := h
    obtain ⟨⟨h0, hp⟩, hc⟩ := ho
    refine ⟨⟨by rw [← hn]; exact h0, fun p hop => by rw [← hn]; exact hp p hop⟩, fun e j h1 h2 h3 => ?_⟩
    rw [← hn] at h2
    obtain ⟨p, v, g1, g2, g3, g4⟩ := hc e j h1 h2 h3
    exact ⟨p, v, g1, g2, g3, SVle_R _ _ _ (hF e e j rfl h1 h2 h3) g4⟩
  · obtain ⟨rfl, rfl, h3, rfl, rfl, rfl⟩ := h
    obtain ⟨p, rfl, fn, tmps, d, g1, g2, g3⟩ := ho
    exact ⟨p, rfl, fn, tmps, d, g1, SVleL_R _ _ _ h3 g2, g3⟩
  · subst h
    exact ho
theorem Oble_own {S : Nat → Option Src} {w : World} {p : Pl} {o o' : Ob} (h : Oble S o o') (ho : o.own w p) : o'.own w p := by
  cases o <;> cases o' <;> simp only [Oble] at h <;> exact ho

theorem Hle_find {S : Nat → Option Src} {H : Heap} : ∀ {T : Heap}, Hle S H T → ∀ {h : Nat} {own : Bool} {o : Ob}, hfind T h = some (own, o) → (∃ g own' o', S h = some (.of g) ∧ hfind H g = some (own', o') ∧ (own = true → own' = true) ∧ Oble S o' o) ∨
    (S h = some .nil ∧ ∃ t k n F, o = .row t k n F ∧ n.i = 0)
  | [], _, h, own, o, hf => by cases hf
  | (h', own', o') :: r, hh, h, own, o, hf => by
    simp only [Hle] at hh
    rw [hfind_cons] at hf
    split at hf
    · rename_i e
      subst e
      cases hf
      obtain ⟨hh, _⟩ := hh
      split at hh
      · rename_i g hg
        split at hh
        · rename_i own2 o2 h2
          exact .inl ⟨g, own2, o2, hg, h2, hh.1, hh.2⟩
        · exact hh.elim
      · rename_i hg
        split at hh
        · exact .inr ⟨hg, _, _, _, _, rfl, hh.h⟩
        · exact hh.elim
      · exact hh.elim
    · exact Hle_find hh.2 hf

theorem nodup_has {g : Nat} : ∀ {l : List (Option Src)}, nodup.has' g l = false → some (Src.of g) ∉ l
  | [], _, h => by cases h
  | none :: r, hh, h => by
    rcases List.mem_cons.1 h with e | h
    · cases e
    · exact nodup_has (by simpa [nodup.has'] using hh) h
  | some .nil :: r, hh, h => by
    rcases List.mem_cons.1 h with e | h
    · cases e
    · exact nodup_has (by simpa [nodup.has'] using hh) h
  | some (.of q) :: r, hh, h => by
    simp only [nodup.has'] at hh
    rcases List.mem_cons.1 h with e | h
    · cases e
      simp at hh
    · split at hh
      · cases hh
      · exact nodup_has hh h
theorem hfind_mem : ∀ {H : Heap} {h : Nat} {x : Bool × Ob}, hfind H h = some x → (h, x) ∈ H
  | (h', y) :: r, h, x, hf => by
    rw [hfind_cons] at hf
    split at hf
    · rename_i e; subst e; cases hf; exact List.mem_cons_self
    · exact List.mem_cons_of_mem _ (hfind_mem hf)
  | [], _, _, hf => by cases hf
theorem nodup_spec {S : Nat → Option Src} : ∀ {T : Heap}, nodup.go (T.map fun x => S x.1) = true → ∀ {h h' g : Nat} {x y : Bool × Ob}, (h, x) ∈ T → (h', y) ∈ T → h ≠ h' → S h = some (.of g) → S h' = some (.of g) → False
  | [], _, h, h', g, x, y, hm, _, _, _, _ => by cases hm
  | (h0, z) :: r, hn, h, h', g, x, y, hm, hm', hne, hs, hs' => by
    simp only [List.map_cons] at hn
    have hr : nodup.go (r.map fun x => S x.1) = true := by
      cases hS : S h0 with
      | none => rw [hS] at hn; simpa [nodup.go] using hn
      | some y =>
        rw [hS] at hn
        cases y with
        | nil => simpa [nodup.go] using hn
        | of q =>
          simp only [nodup.go] at hn
          split at hn
          · cases hn
          · exact hn
    have notin : ∀ q, S h0 = some (.of q) → ∀ h1 x1, (h1, x1) ∈ r → S h1 = some (.of q) → False := fun q hq h1 x1 hm1 hs1 => by
      rw [hq] at hn
      simp only [nodup.go] at hn
      split at hn
      · cases hn
      · rename_i hb
        exact nodup_has hb (List.mem_map.2 ⟨_, hm1, hs1⟩)
    rcases List.mem_cons.1 hm with e | hm <;> rcases List.mem_cons.1 hm' with e' | hm'
    · cases e; cases e'; exact hne rfl
    · cases e; exact notin g hs h' y hm' hs'
    · cases e'; exact notin g hs' h x hm hs
    · exact nodup_spec hr hm hm' hne hs hs'

/-- the weaker state stands for what the stronger stood for -/
theorem Le.sim {base : Nat} {σ : List Src} {s t : St} (h : Le base σ s t) {C : Cx} {ρ : Rho} {a : Act} {w : World} (hS : Sim C ρ s a w) (_ : base ≤ s.nx) : Sim C (rhoOf base σ ρ) t a w ∧ Agree ρ (rhoOf base σ ρ) base := by
  have low : Agree ρ (rhoOf base σ ρ) base := ⟨fun i hi => rhoOf_of (by
    have : Nat.blt i base = true := Nat.ble_eq_true_of_le hi
    simp only [srcOf, this]), rfl⟩
  refine ⟨⟨SVleL_R _ _ _ h.tm hS.tm, ⟨?_, ?_, ?_, ?_, ?_, hS.rep.size, hS.rep.frame, hS.rep.os, hS.rep.tape, hS.rep.output, ⟨hS.rep.dfr.nd, hS.rep.dfr.blk, hS.rep.dfr.own, ?_⟩⟩, hS.mks⟩, low⟩
  · intro i own o hf
    rcases Hle_find h.hp hf with ⟨g, own', o', h1, h2, h3, h4⟩ | ⟨h1, t, k, n, F, rfl, hn⟩
    · obtain ⟨op, g1, g2⟩ := hS.rep.obj g own' o' h2
      exact ⟨op, (rhoOf_of h1).trans g1, Oble_R h4 g2⟩
    · exact ⟨none, rhoOf_nil h1, ⟨by rw [hn]; exact Int.le_refl _, fun p hp => by cases hp⟩, fun e j e1 e2 => by rw [hn] at e2; omega⟩
  · intro i o p hf hp
    rcases Hle_find h.hp hf with ⟨g, own', o', h1, h2, h3, h4⟩ | ⟨h1, _⟩
    · have h3 := h3 rfl
      subst h3
      rw [rhoOf_of h1] at hp
      obtain ⟨g1, g2⟩ := hS.rep.own g o' p h2 hp
      exact ⟨Oble_own h4 g1, g2⟩
    · rw [rhoOf_nil h1] at hp; cases hp
  · intro i o i' own' o' p p' hne hf hf' hp hp'
    rcases Hle_find h.hp hf with ⟨g, ow, ob, h1, h2, h3, h4⟩ | ⟨h1, _⟩
    · rcases Hle_find h.hp hf' with ⟨g', ow', ob', k1, k2, k3, k4⟩ | ⟨k1, _⟩
      · have h3 := h3 rfl
        subst h3
        rw [rhoOf_of h1] at hp
        rw [rhoOf_of k1] at hp'
        refine hS.rep.sep g ob g' ow' ob' p p' (fun e => ?_) h2 k2 hp hp'
        subst e
        exact nodup_spec h.nd (hfind_mem hf) (hfind_mem hf') hne h1 k1
      · rw [rhoOf_nil k1] at hp'; cases hp'
    · rw [rhoOf_nil h1] at hp; cases hp
  · intro i hi
    rw [h.nx] at hi
    have h1 : Nat.blt i base = false := by
      cases hb : Nat.blt i base with
      | false => rfl
      | true => have := Nat.le_of_ble_eq_true hb; omega
    simp only [rhoOf, srcOf, h1, List.getElem?_eq_none (show σ.length ≤ i - base by omega), pickR]
  · intro i p hp
    unfold rhoOf pickR at hp
    simp only at hp
    split at hp
    · exact hS.rep.lt _ _ hp
    · cases hp
    · cases hp
  · intro b hb' i own o p hf hp
    rcases Hle_find h.hp hf with ⟨g, own', o', h1, h2, h3, h4⟩ | ⟨h1, _⟩
    · rw [rhoOf_of h1] at hp
      exact hS.rep.dfr.sep b hb' g own' o' p h2 hp
    · rw [rhoOf_nil h1] at hp; cases hp

/-- THE LOOP RULE. -/
theorem loop_rule {P : Program} {C : Cx} {rh : Option Nat} {b : Code} {st : St} {k : Ex → St → Prop} {ι : Type} (I : ι → St) (μ : ι → Nat) (x0 : ι) (σ0 : List Src) (h0 : Le st.nx σ0 st (I x0)) (hrh : ∀ h, rh = some h → h < st.nx) (hnx : ∀ x, (I x).nx = st.nx + σ0.length)
    (step : ∀ x, Snd P C rh b (I x) (fun e s => match e with
      | .normal => ∃ y σ, Le st.nx σ s (I y) ∧ μ y < μ x
      | .exit id => k (.exit id) s
      | .ret => k .ret s)) : LoopOb P C rh b st k := by
  have rhOk : ∀ {ρ ρ' : Rho} {ro : Option Nat}, Agree ρ ρ' st.nx → RoOk ρ rh ro → RoOk ρ' rh ro := fun {ρ ρ' ro} hag hro => by
    cases rh with
    | none => cases ro <;> exact hro
    | some h =>
      cases ro with
      | none => exact hro
      | some l =>
        obtain ⟨p, h1, h2⟩ := hro
        exact ⟨p, (hag.f h (hrh h rfl)).trans h1, h2⟩
  refine ⟨fun ρ a w Q ro hro hS hk => ?_⟩
  have key : ∀ m x ρ1 a1 w1, μ x = m → RoOk ρ1 rh ro → Sim C ρ1 (I x) a1 w1 → Agree ρ ρ1 st.nx → LoopW (FW ro) P b Q a1 w1 := by
    intro m
    induction m using Nat.strongRecOn with
    | _ m ih =>
      intro x ρ1 a1 w1 hm hro1 hS1 hag1
      have hle0 : st.nx ≤ (I x).nx := by rw [hnx]; exact Nat.le_add_right _ _
      refine LoopW.round (step x ρ1 a1 w1 _ ro hro1 hS1 ?_)
      intro e s ρ2 a2 w2 hk2 hS2 hag2 hle2
      have hag12 : Agree ρ ρ2 st.nx := hag1.trans hag2 hle0
      cases e with
      | normal =>
        obtain ⟨y, σ, hle, hlt⟩ := hk2
        obtain ⟨hS3, hag3⟩ := hle.sim hS2 (Nat.le_trans hle0 hle2)
        exact ih (μ y) (by omega) y _ a2 w2 rfl (rhOk hag3 (rhOk hag12 hro)) hS3 (hag12.trans hag3 (Nat.le_refl _))
      | exit id => exact hk _ _ _ _ _ hk2 hS2 hag12 (Nat.le_trans hle0 hle2)
      | ret => exact hk _ _ _ _ _ hk2 hS2 hag12 (Nat.le_trans hle0 hle2)
  obtain ⟨hS0, hag0⟩ := h0.sim hS (Nat.le_refl _)
  exact key _ x0 _ a w rfl (rhOk hag0 hro) hS0 hag0

/-- one round more -/
theorem loop_unroll {P : Program} {C : Cx} {rh : Option Nat} {b : Code} {st : St} {k : Ex → St → Prop} (h : Snd P C rh b st (fun e s => match e with
      | .normal => LoopOb P C rh b s k
      | .exit id => k (.exit id) s
      | .ret => k .ret s)) : LoopOb P C rh b st k := by
  refine ⟨fun ρ a w Q ro hro hS hk => LoopW.round (h ρ a w _ ro hro hS ?_)⟩
  intro e s ρ2 a2 w2 hk2 hS2 hag2 hle2
  cases e with
  | normal => exact hk2.h ρ2 a2 w2 Q ro (hro.mono (Ext.of_agree hS.rep hag2)) hS2 fun e st' ρ' a' w' g1 g2 g3 g4 => hk e st' ρ' a' w' g1 g2 (hag2.trans g3 hle2) (Nat.le_trans hle2 g4)
  | exit id => exact hk _ _ _ _ _ hk2 hS2 hag2 hle2
  | ret => exact hk _ _ _ _ _ hk2 hS2 hag2 hle2

end Go.Sx
/-
  Calls: by another run; closed runs; from the outside.
-/
namespace Go.Sx
open Go

/-- what a run may leave -/
structure Left (P : Program) (C : Cx) (O : Obs) : Prop where
  lo : ∀ {rh b st k}, LoopOb P C rh b st k → O.lo rh b st k
  co : ∀ {f args H nx k}, CallOb P C f args H nx k → O.co f args H nx k
theorem CallOb.of_run {P : Program} {C : Cx} {X : Cfg} (hM : P.follows .mixedOrders = true) (hin : known P X.inl = true) (hout : callable P X.out = true) (n : Nat) {f : FuncId} {args : List SV} {H : Heap} {nx : Nat} {k : SV → Heap → Nat → Prop}
    (h : ∀ O, Left P C O → runCall P O.full X n f args H nx k) : CallOb P C f args H nx k :=
  ⟨((sound (O := ⟨LoopOb P C, CallOb P C, fun _ => none, fun _ => none⟩) ⟨fun h => h.h, fun h => h.h⟩ hM hin hout n).call f args H nx k (h ⟨LoopOb P C, CallOb P C⟩ ⟨fun h => h, fun h => h⟩)).1⟩
theorem Snd.of_run {P : Program} {C : Cx} {X : Cfg} (hM : P.follows .mixedOrders = true) (hin : known P X.inl = true) (hout : callable P X.out = true) (n : Nat) {rh : Option Nat} {c : Code} (hok : codeOk c = true) {st : St} {k : Ex → St → Prop}
    (h : ∀ O, Left P C O → run P O.full X n rh c st k) : Snd P C rh c st k :=
  (sound (O := ⟨LoopOb P C, CallOb P C, fun _ => none, fun _ => none⟩) ⟨fun h => h.h, fun h => h.h⟩ hM hin hout n).run rh c st k hok (h ⟨LoopOb P C, CallOb P C⟩ ⟨fun h => h, fun h => h⟩)
/-- .. where some plans are given by hand -/
theorem Snd.of_runP {P : Program} {C : Cx} {X : Cfg} (pl : Array Oper → Option Plan) (kn : Nat → Option Bool) (hM : P.follows .mixedOrders = true) (hin : known P X.inl = true) (hout : callable P X.out = true) (n : Nat) {rh : Option Nat} {c : Code} (hok : codeOk c = true) {st : St} {k : Ex → St → Prop}
    (h : ∀ O, Left P C O → run P ⟨O.lo, O.co, pl, kn⟩ X n rh c st k) : Snd P C rh c st k :=
  (sound (O := ⟨LoopOb P C, CallOb P C, pl, kn⟩) ⟨fun h => h.h, fun h => h.h⟩ hM hin hout n).run rh c st k hok (h ⟨LoopOb P C, CallOb P C⟩ ⟨fun h => h, fun h => h⟩)
theorem CallOb.mono {P : Program} {C : Cx} {f : FuncId} {args : List SV} {H : Heap} {nx : Nat} {k k' : SV → Heap → Nat → Prop} (h : CallOb P C f args H nx k) (hk : ∀ s H' nx', k s H' nx' → k' s H' nx') : CallOb P C f args H nx k' :=
  ⟨fun ρ vs w R ro h1 h2 h3 => h.h ρ vs w R ro h1 h2 fun s v H' nx' ρ' w' g1 => h3 s v H' nx' ρ' w' (hk _ _ _ g1)⟩

/-- from one world to one that has more blocks -/
theorem Rep.grow {C : Cx} {ρ : Rho} {H : Heap} {nx : Nat} {w w' : World} (R : Rep C ρ H nx w) (hb : ∀ b, b < w.heap.size → w'.heap[b]? = w.heap[b]?) (hs : w.heap.size ≤ w'.heap.size) (h1 : w'.os = w.os) (h2 : w'.tape = w.tape) (h3 : w'.output = w.output) : Rep C ρ H nx w' := by
  refine ⟨fun h own o hf => ?_, fun h o p hf hp => ?_, R.sep, R.fresh, fun h p hp => Nat.lt_of_lt_of_le (R.lt h p hp) hs, Nat.le_trans R.size hs, fun b hb' hB => ?_, h1.trans R.os, h2.trans R.tape, h3.trans R.output, ⟨R.dfr.nd, fun b hb' => ?_, R.dfr.own, R.dfr.sep⟩⟩
  · obtain ⟨op, g1, g2⟩ := R.obj h own o hf
    exact ⟨op, g1, Ob.R_grow (Ext.refl _) hb g2⟩
  · obtain ⟨g1, g2⟩ := R.own h o p hf hp
    exact ⟨Ob.own_of_block (hb _ (R.lt h p hp)) g1, g2⟩
  · rw [hb b (Nat.lt_of_lt_of_le hb' R.size)]
    exact R.frame b hb' hB
  · have h1 := R.dfr.blk b hb'
    rw [hb b (block_lt h1)]
    exact h1

theorem rep_empty (w : World) : Rep ⟨w, fun _ => False⟩ ⟨fun _ => Option.none, [], []⟩ [] 0 w :=
  ⟨(fun _ _ _ h => by cases h), (fun _ _ _ h => by cases h), (fun _ _ _ _ _ _ _ _ h => by cases h), (fun _ _ => rfl), (fun _ _ h => by cases h), Nat.le_refl _, (fun _ _ _ => rfl), rfl, rfl, rfl, ⟨by simp, (fun _ h => by simp at h), (fun _ h => by simp at h), (fun _ h => by simp at h)⟩⟩

/-- a closed run that says true may stand in any heap -/
def yes (s : SV) (_ : Heap) (_ : Nat) : Prop :=
  match s with
  | .bool (.bl true) => True
  | _ => False
theorem call_closed {P : Program} {C : Cx} {f : FuncId} {H : Heap} {nx : Nat} {k : SV → Heap → Nat → Prop} (h : ∀ C, SndCall P C f [] [] 0 yes) (hk : k (.bool (.bl true)) H nx) : CallOb P C f [] H nx k := by
  refine ⟨fun ρ vs w R ro hargs hrep hR => ?_⟩
  refine h ⟨w, fun _ => False⟩ ⟨fun _ => none, [], []⟩ vs w R ro ?_ (rep_empty w) ?_
  · cases hv : vs.toList with
    | nil => simp [SV.RL]
    | cons a r => rw [hv] at hargs; simp [SV.RL] at hargs
  · intro s v H' nx' ρ' w' hy hs hrep' _ _ _
    unfold yes at hy
    split at hy
    · simp only [SV.R, E.b_bl] at hs
      subst hs
      exact hR _ _ _ _ ρ w' hk (by simp only [SV.R, E.b_bl]) (hrep.grow (fun b hb => hrep'.frame b hb (fun x => x)) hrep'.size hrep'.os hrep'.tape hrep'.output) (Agree.refl _ _) rfl (Nat.le_refl _)
    · exact hy.elim

/-- from the outside: nothing that lay is turned -/
theorem calls_of {P : Program} {w : World} {f : FuncId} {args : List SV} {vs : Array Value} {H : Heap} {nx : Nat} {k : SV → Heap → Nat → Prop} {R : Ending → World → Prop} {ρ : Rho} (h : SndCall P ⟨w, fun _ => False⟩ f args H nx k) (hargs : SV.RL ρ args vs.toList) (hrep : Rep ⟨w, fun _ => False⟩ ρ H nx w)
    (hk : ∀ s v H' nx' ρ' w', k s H' nx' → SV.R ρ' s v → Rep ⟨w, fun _ => False⟩ ρ' H' nx' w' → R (.returned v) w') : Calls P f vs w R :=
  callsIn_wide.1 (h ρ vs w R none hargs hrep fun s v H' nx' ρ' w' g1 g2 g3 _ _ _ => hk s v H' nx' ρ' w' g1 g2 g3)

/-! ### a loop's states, out of the state at its head -/
def fndL (i : Nat) : List (Nat × SV) → Option SV
  | [] => none
  | (j, v) :: r => match Nat.beq i j with
    | true => some v
    | false => fndL i r
/-- these temporaries as they are, those as they are told; of the others nothing -/
def liveK (tm : List SV) (keep : List Nat) (l : List (Nat × SV)) : List SV := go tm 0
where go : List SV → Nat → List SV
  | [], _ => []
  | v :: r, i => (match fndL i l with
    | some x => x
    | none => match has keep i with
      | true => v
      | false => .any) :: go r (i + 1)
/-- these objects as they are -/
def keepH (l : List Nat) : Heap → Heap
  | [] => []
  | (h, x) :: r => match has l h with
    | true => (h, x) :: keepH l r
    | false => keepH l r
theorem loop_rule' {P : Program} {C : Cx} {rh : Option Nat} {b : Code} {st : St} {k : Ex → St → Prop} {ι : Type} (I : St → ι → St) (μ : ι → Nat) (x0 : ι) (σ0 : List Src) (h0 : Le st.nx σ0 st (I st x0)) (hrh : ∀ h, rh = some h → h < st.nx) (hnx : ∀ x, (I st x).nx = st.nx + σ0.length)
    (step : ∀ x, Snd P C rh b (I st x) (fun e s => match e with
      | .normal => ∃ y σ, Le st.nx σ s (I st y) ∧ μ y < μ x
      | .exit id => k (.exit id) s
      | .ret => k .ret s)) : LoopOb P C rh b st k := loop_rule (I st) μ x0 σ0 h0 hrh hnx step
end Go.Sx
/-
  A contract that is proved in a heap of what the function reads alone, taken up in any heap.
-/
namespace Go.Sx
open Go

/-- what a call hands back: a value without handles; a value that names a new row -/
inductive Out where
  | val (s : SV)
  | row (mk : Nat → SV) (t : TypeId) (k : Nat) (n : E) (F : Nat → E → SV)
  | sub (i k : Nat) (o : Off) (len : E)
def Out.fits (nx : Nat) (s : SV) (H : Heap) : Out → Prop
  | .val s0 => s = s0
  | .row mk t k n F => ∃ h, nx ≤ h ∧ s = mk h ∧ hfind H h = some (true, .row t k n F)
  | .sub i k o len => i < nx ∧ s = .sl i k o len none
/-- a value without handles -/
def Plain (s : SV) : Prop := ∀ ρ ρ' v, SV.R ρ s v → SV.R ρ' s v
mutual
def plainB : SV → Bool
  | .int .. | .bool .. | .lit .. | .any => true
  | .fn _ a b => plainL a && plainL b
  | .agg l => plainL l
  | .tup l => plainL l
  | _ => false
def plainL : List SV → Bool
  | [] => true
  | a :: r => plainB a && plainL r
end
mutual
theorem plain_R (ρ ρ' : Rho) : ∀ (s : SV) (v : Value), plainB s = true → SV.R ρ s v → SV.R ρ' s v
  | .int _ _, v, _, h => by simpa only [SV.R] using h
  | .bool _, v, _, h => by simpa only [SV.R] using h
  | .lit _, v, _, h => by simpa only [SV.R] using h
  | .any, v, _, h => by simp only [SV.R]
  | .fn _ a b, v, hp, h => by
    simp only [plainB, Bool.and_eq_true] at hp
    simp only [SV.R] at h ⊢
    obtain ⟨x, y, h1, h2, h3⟩ := h
    exact ⟨x, y, h1, plain_RL ρ ρ' a _ hp.1 h2, plain_RL ρ ρ' b _ hp.2 h3⟩
  | .agg l, v, hp, h => by
    simp only [plainB] at hp
    simp only [SV.R] at h ⊢
    obtain ⟨x, h1, h2⟩ := h
    exact ⟨x, h1, plain_RL ρ ρ' l _ hp h2⟩
  | .tup l, v, hp, h => by
    simp only [plainB] at hp
    simp only [SV.R] at h ⊢
    obtain ⟨x, h1, h2⟩ := h
    exact ⟨x, h1, plain_RL ρ ρ' l _ hp h2⟩
  | .ptr _ _, _, hp, _ => by simp [plainB] at hp
  | .sl _ _ _ _ _, _, hp, _ => by simp [plainB] at hp
  | .mp _, _, hp, _ => by simp [plainB] at hp
  | .yl _, _, hp, _ => by simp [plainB] at hp
theorem plain_RL (ρ ρ' : Rho) : ∀ (l : List SV) (v : List Value), plainL l = true → SV.RL ρ l v → SV.RL ρ' l v
  | [], [], _, _ => by simp [SV.RL]
  | [], _ :: _, _, h => by simp [SV.RL] at h
  | _ :: _, [], _, h => by simp [SV.RL] at h
  | a :: r, v :: vs, hp, h => by
    simp only [plainL, Bool.and_eq_true] at hp
    simp only [SV.RL] at h ⊢
    exact ⟨plain_R ρ ρ' a v hp.1 h.1, plain_RL ρ ρ' r vs hp.2 h.2⟩
end
theorem plain_of {s : SV} (h : plainB s = true) : Plain s := fun ρ ρ' v hr => plain_R ρ ρ' s v h hr
def Out.plain : Out → Prop
  | .val s => Plain s
  | .row mk _ k _ F => (∀ (ρ ρ' : Rho) h h' v, ρ' h' = ρ h → SV.R ρ (mk h) v → SV.R ρ' (mk h') v) ∧ ∀ j e, j < k → Plain (F j e)
  | .sub .. => True
/-- the contract -/
def Spec (P : Program) (f : FuncId) (args : List SV) (H : Heap) (nx : Nat) (Post : Out → Prop) : Prop :=
  ∀ C, CallOb P C f args H nx fun s H' _ => ∃ out, Post out ∧ out.fits nx s H'

theorem Spec.mono {P : Program} {f : FuncId} {args : List SV} {H : Heap} {nx : Nat} {A B : Out → Prop} (h : Spec P f args H nx A) (k : ∀ out, A out → B out) : Spec P f args H nx B := fun C => (h C).mono fun _ _ _ ⟨out, h1, h2⟩ => ⟨out, k out h1, h2⟩
theorem hle_obj {σ : List Src} {ρ : Rho} {H T : Heap} {nx : Nat} {w : World} {C : Cx} (R : Rep C ρ H nx w) (h : Hle (srcOf 0 σ) H T) : ∀ i own o, hfind T i = some (own, o) → ∃ op, rhoOf 0 σ ρ i = some op ∧ o.R (rhoOf 0 σ ρ) w op := by
  intro i own o hf
  rcases Hle_find h hf with ⟨g, own', o', h1, h2, _, h4⟩ | ⟨h1, t, k, n, F, rfl, hn⟩
  · obtain ⟨op, g1, g2⟩ := R.obj g own' o' h2
    exact ⟨op, (rhoOf_of h1).trans g1, Oble_R h4 g2⟩
  · exact ⟨none, rhoOf_nil h1, ⟨by rw [hn]; exact Int.le_refl _, fun p hp => by cases hp⟩, fun e j e1 e2 => by rw [hn] at e2; omega⟩

def readOnly (H : Heap) : Bool := H.all fun x => !x.2.1

theorem Spec.call {P : Program} {C : Cx} {f : FuncId} {args0 args : List SV} {H0 H : Heap} {nx0 nx : Nat} {Post : Out → Prop} {k : SV → Heap → Nat → Prop} (h : Spec P f args0 H0 nx0 Post) (σ : List Src) (hσ : σ.length = nx0) (hro : readOnly H0 = true)
    (ha : SVleL (srcOf 0 σ) args args0) (hH : Hle (srcOf 0 σ) H H0) (hp : ∀ out, Post out → out.plain)
    (hk : ∀ out, Post out → match out with
      | .val s => k s H nx
      | .row mk t kk n F => k (mk nx) ((nx, true, .row t kk n F) :: H) (nx + 1)
      | .sub i kk o len => match σ[i]? with
        | some (.of g) => k (.sl g kk o len none) H nx
        | _ => False) : CallOb P C f args H nx k := by
  refine ⟨fun ρ vs w R ro hargs hrep hR => ?_⟩
  have own0 : ∀ {i : Nat} {o : Ob}, hfind H0 i = some (true, o) → False := fun {i o} hf => by
    have := List.all_eq_true.1 hro _ (hfind_mem hf)
    cases this
  have hrep0 := hrep.marks [] [] (List.nil_sublist _)
  have hx0 : Ext ρ ⟨ρ.f, [], []⟩ := fun _ _ h => h
  have R0 : Rep ⟨w, fun _ => False⟩ (rhoOf 0 σ ⟨ρ.f, [], []⟩) H0 nx0 w := by
    refine ⟨hle_obj hrep0 hH, fun i o p hf => (own0 hf).elim, fun i o i' own' o' p p' _ hf => (own0 hf).elim, fun i hi => ?_, fun i p hp => ?_, Nat.le_refl _, fun _ _ _ => rfl, rfl, rfl, rfl, dfr_nil _ _ _ _⟩
    · have : σ[i]? = none := List.getElem?_eq_none (by omega)
      have h1 : Nat.blt i 0 = false := by cases hb : Nat.blt i 0 with
        | false => rfl
        | true => have := Nat.le_of_ble_eq_true hb; omega
      simp only [rhoOf, srcOf, h1, Nat.sub_zero, this, pickR]
    · unfold rhoOf pickR at hp
      simp only at hp
      split at hp
      · exact hrep.lt _ _ hp
      · cases hp
      · cases hp
  refine (h ⟨w, fun _ => False⟩).h (rhoOf 0 σ ⟨ρ.f, [], []⟩) vs w R ro (SVleL_R _ _ _ ha (RL_mono hx0 _ _ hargs)) R0 ?_
  intro s v H' nx' ρ' w' ⟨out, hpost, hfit⟩ hs hrep' hag _ hle
  have hout := hk out hpost
  have hpl := hp out hpost
  have hgrow : Rep C ρ H nx w' := hrep.grow (fun b hb => hrep'.frame b hb (fun x => x)) hrep'.size hrep'.os hrep'.tape hrep'.output
  cases out with
  | val s0 =>
    simp only [Out.fits] at hfit
    subst hfit
    exact hR _ _ _ _ ρ w' hout (hpl _ _ _ hs) hgrow (Agree.refl _ _) rfl (Nat.le_refl _)
  | sub i kk o len =>
    obtain ⟨hi, rfl⟩ := hfit
    simp only at hout
    split at hout
    · rename_i g hg
      refine hR _ _ _ _ ρ w' hout ?_ hgrow (Agree.refl _ _) rfl (Nat.le_refl _)
      have e1 : ρ' i = ρ g := by
        rw [hag.f i hi]
        exact rhoOf_of (ρ := ⟨ρ.f, [], []⟩) (by
          have h1 : Nat.blt i 0 = false := by cases hb : Nat.blt i 0 with
            | false => rfl
            | true => have := Nat.le_of_ble_eq_true hb; omega
          simp only [srcOf, h1, Nat.sub_zero, hg])
      simp only [SV.R] at hs ⊢
      rw [← e1]
      exact hs
    · exact hout.elim
  | row mk t kk n F =>
    obtain ⟨g, hg, rfl, hf⟩ := hfit
    obtain ⟨op, g1, g2⟩ := hrep'.obj g true _ hf
    have hnx : ρ nx = none := hrep.fresh nx (Nat.le_refl _)
    have hx := Ext.rset hnx op
    have rnew : rset ρ nx op nx = some op := by simp [rset]
    have rold : ∀ i, i ≠ nx → rset ρ nx op i = ρ i := fun i hne => by simp [rset, hne]
    have old : ∀ i x, hfind H i = some x → i ≠ nx := fun i x hf e => by have := hfind_lt hrep hf; omega
    have place : ∀ p, op = some p → OwnBlock w' p ∧ w.heap.size ≤ p.a.block := fun p hop => by
      subst hop
      obtain ⟨h1, h2⟩ := hrep'.own g _ p hf g1
      exact ⟨h1, h2.resolve_right (fun x => x)⟩
    refine hR _ _ _ _ (rset ρ nx op) w' hout (hpl.1 ρ' _ g nx v (rnew.trans g1.symm) hs) ⟨?_, ?_, ?_, ?_, ?_, hgrow.size, hgrow.frame, hgrow.os, hgrow.tape, hgrow.output, ⟨hgrow.dfr.nd, hgrow.dfr.blk, hgrow.dfr.own, ?_⟩⟩ (Agree.rset ρ (Nat.le_refl _) op) rfl (Nat.le_succ _)
    · intro i own o hi
      rw [hfind_cons] at hi
      split at hi
      · rename_i e
        subst e
        cases hi
        refine ⟨op, rnew, ⟨g2.1, fun e j h1 h2 h3 => ?_⟩⟩
        obtain ⟨p, x, e1, e2, e3, e4⟩ := g2.2 e j h1 h2 h3
        exact ⟨p, x, e1, e2, e3, hpl.2 j e h3 _ _ _ e4⟩
      · obtain ⟨op', h1, h2⟩ := hgrow.obj i own o hi
        exact ⟨op', hx _ _ h1, Ob.R_of_block hx (fun _ _ => rfl) h2⟩
    · intro i o p hi hpp
      rw [hfind_cons] at hi
      split at hi
      · rename_i e
        subst e
        cases hi
        rw [rnew] at hpp
        cases hpp
        obtain ⟨h1, h2⟩ := place p rfl
        exact ⟨h1, .inl (Nat.le_trans hrep.size h2)⟩
      · rw [rold i (old _ _ hi)] at hpp
        exact hgrow.own i o p hi hpp
    · intro i o i' own' o' p p' hne hi hi' hpp hpp'
      rw [hfind_cons] at hi hi'
      split at hi
      · rename_i e
        subst e
        rw [if_neg hne] at hi'
        rw [rnew] at hpp
        cases hpp
        rw [rold i' (old _ _ hi')] at hpp'
        have h1 := (place p rfl).2
        have h2 := hrep.lt i' p' hpp'
        omega
      · split at hi'
        · rename_i e
          subst e
          rw [rnew] at hpp'
          cases hpp'
          rw [rold i (old _ _ hi)] at hpp
          have h1 := (place p' rfl).2
          have h2 := hrep.lt i p hpp
          omega
        · rw [rold i (old _ _ hi)] at hpp
          rw [rold i' (old _ _ hi')] at hpp'
          exact hgrow.sep i o i' own' o' p p' hne hi hi' hpp hpp'
    · intro i hi
      rw [rold i (by omega)]
      exact hrep.fresh i (by omega)
    · intro i p hpp
      by_cases e : i = nx
      · subst e
        rw [rnew] at hpp
        cases hpp
        exact hrep'.lt g p g1
      · rw [rold i e] at hpp
        exact hgrow.lt i p hpp
    · intro b hb i own o p hi hpp
      rw [hfind_cons] at hi
      split at hi
      · rename_i e
        subst e
        cases hi
        rw [rnew] at hpp
        cases hpp
        have h1 := (place p rfl).2
        have h2 := block_lt (hrep.dfr.blk b hb)
        omega
      · rw [rold i (old _ _ hi)] at hpp
        exact hgrow.dfr.sep b hb i own o p hi hpp
end Go.Sx
/-
  Rows of the run's own, handed to a function that is known by a contract of the shelf.
-/
namespace Go.Sx
open Go Go.Sort

/-- a call's state that says less -/
theorem CallOb.le {P : Program} {C : Cx} {f : FuncId} {args args' : List SV} {H H' : Heap} {nx nx' : Nat} {k : SV → Heap → Nat → Prop} (σ : List Src) (hle : Le nx σ ⟨args, H, nx, []⟩ ⟨args', H', nx', []⟩) (hc : CallOb P C f args' H' nx' k) : CallOb P C f args H nx k := by
  refine ⟨fun ρ vs w R ro hargs hrep hR => ?_⟩
  have hS : Sim C ρ ⟨args, H, nx, []⟩ { tmps := vs, defers := ρ.d.map fun b => { target := .collected b, args := #[] } } w := ⟨hargs, hrep, rfl⟩
  obtain ⟨hS', hag⟩ := hle.sim hS (Nat.le_refl _)
  refine hc.h _ vs w R ro hS'.tm hS'.rep fun s v H2 nx2 ρ2 w2 g1 g2 g3 g4 gd g5 => hR s v H2 nx2 ρ2 w2 g1 g2 g3 (hag.trans g4 ?_) gd ?_
  · have := hle.nx
    simp only at this
    omega
  · have := hle.nx
    simp only at this
    omega

section
variable {α : Type} [Inhabited α] {enc : α → Value} {C : Cx} {ρ : Rho} {H : Heap} {nx : Nat} {w : World}
theorem own_frozen {p : Pl} (h : OwnBlock w p) (n : Nat) : w.frozen? (p.a.add n) = false := by
  obtain ⟨c, t, h1, h2, h3⟩ := h
  simp only [World.frozen?, Addr.add_block, h1]
  simp
theorem addr_at {p : Pl} (h : OwnBlock w p) (n : Nat) : p.a.add n = ⟨p.a.block, p.a.off + n, none⟩ := by
  obtain ⟨c, t, h1, h2, h3⟩ := h
  have e1 := Addr.add_block p.a n
  have e2 := Addr.add_off p.a n
  have e3 := Addr.add_spot h3 n
  generalize p.a.add n = a at *
  cases a
  simp_all
/-- the row's cells are these -/
theorem holds_of_row (R : Rep C ρ H nx w) {h : Nat} {t : TypeId} {k : Nat} {n : E} {F : Nat → E → SV} (hf : hfind H h = some (true, .row t k n F)) {p : Pl} (hp : ρ h = some (some p)) (d : Array α) (hd : d.size = n.i.toNat * k) (hk : 0 < k)
    (hF : ∀ (e : E) (j : Nat), 0 ≤ e.i → e.i < n.i → j < k → ∀ v, SV.R ρ (F j e) v → v = enc d[e.i.toNat * k + j]!) : Holds enc w p.a.block p.a.off d := by
  intro q hq
  obtain ⟨how, _⟩ := R.own h _ p hf hp
  have how : OwnBlock w p := how
  have ho := hfind_cell R hf hp
  have h1 : q / k < n.i.toNat := by
    rw [hd, Nat.mul_comm] at hq
    exact Nat.div_lt_of_lt_mul hq
  have h2 : q % k < k := Nat.mod_lt _ hk
  have e : q / k * k + q % k = q := by rw [Nat.mul_comm]; exact Nat.div_add_mod q k
  have hi : (E.lit ((q / k : Nat) : Int)).i.toNat = q / k := by rw [E.i_lit, Int.toNat_natCast]
  obtain ⟨p', x, hp', hc, hone, hr⟩ := ho.2 (.lit ((q / k : Nat) : Int)) (q % k) (by rw [E.i_lit]; omega) (by rw [E.i_lit]; omega) h2
  cases hp'
  have hv := hF (.lit ((q / k : Nat) : Int)) (q % k) (by rw [E.i_lit]; omega) (by rw [E.i_lit]; omega) h2 x hr
  rw [hi, e] at hv hc
  rw [addr_at how] at hc
  refine ⟨by rw [hc, hv], ?_⟩
  rw [← addr_at how]
  exact own_frozen how q

theorem putRow_other (d : Array α) (b off b' : Nat) (hb : b' ≠ b) : (putRow enc w b off d).heap[b']? = w.heap[b']? := by
  simp only [putRow, mapBlock, Array.getElem?_modify]
  rw [if_neg (fun e => hb e.symm)]

/-- another row in its place; new blocks behind -/
theorem Rep.putRow (R : Rep C ρ H nx w) {h : Nat} {t : TypeId} {k : Nat} {n : E} {F : Nat → E → SV} (hf : hfind H h = some (true, .row t k n F)) {p : Pl} (hp : ρ h = some (some p)) (d0 d : Array α) (h0 : Holds enc w p.a.block p.a.off d0) (hsz : d.size = d0.size) (hd : d.size = n.i.toNat * k)
    (q : Nat) (os : Array Obj) (F' : Nat → E → SV) (hF : ∀ (e : E) (j : Nat), 0 ≤ e.i → e.i < n.i → j < k → SV.R ρ (F' j e) (enc d[e.i.toNat * k + j]!)) (hone : ∀ j, j < d.size → (enc d[j]!).oneCell' = true) :
    Rep C ρ (hset H h (true, .row t k n F')) nx (Go.Sort.grow (Go.Sort.putRow enc (Go.Sort.ahead w q) p.a.block p.a.off d) os) := by
  obtain ⟨how, _⟩ := R.own h _ p hf hp
  have how : OwnBlock w p := how
  have hown' : OwnBlock (Go.Sort.putRow enc (Go.Sort.ahead w q) p.a.block p.a.off d) p := by
    obtain ⟨c, t, h1, h2, h3⟩ := how
    refine ⟨putCells enc p.a.off d c, t, ?_, by simpa [putCells] using h2, h3⟩
    show (Array.modify w.heap p.a.block _)[p.a.block]? = _
    rw [Array.getElem?_modify, if_pos rfl, h1]
    rfl
  have R1 : Rep C ρ (hset H h (true, .row t k n F')) nx (Go.Sort.putRow enc (Go.Sort.ahead w q) p.a.block p.a.off d) := by
    refine R.write hf hp (fun b hb => ?_) (by rw [size_putRow]; rfl) hown' rfl rfl rfl ?_
    · exact putRow_other (w := Go.Sort.ahead w q) d _ _ b hb
    · have ho := hfind_cell R hf hp
      refine ⟨ho.1, fun e j e1 e2 e3 => ⟨p, enc d[e.i.toNat * k + j]!, rfl, ?_, ?_, hF e j e1 e2 e3⟩⟩
      · have hlt : e.i.toNat * k + j < d.size := by
          rw [hd]
          have : (e.i.toNat + 1) * k ≤ n.i.toNat * k := Nat.mul_le_mul_right _ (by omega)
          rw [Nat.add_mul] at this
          omega
        rw [addr_at how]
        exact (holds_putRow enc (Go.Sort.ahead w q) p.a.block p.a.off d0 d h0 hsz _ hlt).1
      · refine hone _ ?_
        rw [hd]
        have : (e.i.toNat + 1) * k ≤ n.i.toNat * k := Nat.mul_le_mul_right _ (by omega)
        rw [Nat.add_mul] at this
        omega
  exact R1.grow (fun b hb => heap_grow_old _ _ hb) (by rw [size_grow]; omega) rfl rfl rfl
end
end Go.Sx
