import Derived.Test.YtpkapjlcmoikoaaSxR
import Derived.RangeFuncNested
set_option linter.all false
/-
  The runner is sound.
-/
namespace Go.Sx
open Go

section
variable {P : Program} {C : Cx} {O : ObsP} {X : Cfg}

theorem codeOk_seq {a b : Code} (h : codeOk (.seq a b) = true) : codeOk a = true ∧ codeOk b = true := by
  simp only [codeOk] at h
  split at h
  · rename_i ha; exact ⟨ha, h⟩
  · cases h
theorem codeOk_cond {c : Operand} {a b : Code} (h : codeOk (.cond c a b) = true) : codeOk a = true ∧ codeOk b = true := by
  simp only [codeOk] at h
  split at h
  · rename_i ha; exact ⟨ha, h⟩
  · cases h
theorem codeOk_range {g : Operand} {ps : Array Tmp} {a b : Code} (h : codeOk (.rangeFunc g ps a b) = true) : codeOk a = true ∧ codeOk b = true := by
  simp only [codeOk] at h
  split at h
  · rename_i ha; exact ⟨ha, h⟩
  · cases h

theorem loopOk_step {n : Nat} (h1 : RunOk P C O X n) (h2 : LoopOk P C O X n) : LoopOk P C O X (n + 1) := by
  intro rh b st k hok h
  simp only [runLoop] at h
  intro ρ a w Q ro hro hS hk
  refine LoopW.round (h1 rh b st _ hok h ρ a w _ ro hro hS ?_)
  intro e st' ρ' a' w' hk' hS' hag hle
  cases e with
  | normal => exact h2 rh b st' k hok hk' ρ' a' w' Q ro (hro.mono (Ext.of_agree hS.rep hag)) hS' fun e st2 ρ2 a2 w2 g1 g2 g3 g4 => hk e st2 ρ2 a2 w2 g1 g2 (hag.trans g3 hle) (Nat.le_trans hle g4)
  | exit id => exact hk _ _ _ _ _ hk' hS' hag hle
  | ret => exact hk _ _ _ _ _ hk' hS' hag hle

/-- the end of a loop over a function -/
theorem endLoop_ok {h : Nat} {st : St} {H : Heap} {nx : Nat} {k : Ex → St → Prop} (hend : endLoop h st H nx k) {ρ : Rho} {a : Act} {w : World} (hrep : Rep C ρ H nx w) (htm : SV.RL ρ st.tmps a.tmps.toList) (hmk : Marks ρ a.defers)
    {p : Pl} (hp : ρ h = some (some p)) {Q : Exit → Act → World → Prop} {ro : Option Nat} (hk : ∀ e st' w', k e st' → Sim C ρ st' a w' → st'.nx = nx → Q e.to a w') :
    ∃ jump w', (Instr.endLoop p.a.block).run P w = .ok jump w' ∧ (match jump with
       | none => Q .normal a w'
       | some c => c.wpIn (FW ro) 0 P Q a w') := by
  unfold endLoop at hend
  split at hend
  · rename_i s pend tm ps assign body hf
    obtain ⟨p', fn, tmps, d, hp', hblk, htm', ok1, ok2⟩ := loop_at hrep hf
    rw [hp] at hp'
    cases hp'
    have hrep' : Rep C ρ (hdel H h) nx (w.putObj p.a.block (.loop { state := .exhausted, pending := pend, fn, tmps, params := ps, assign, body, defers := d })) := by
      have := (hrep.putObj hf hp (.loop { state := .exhausted, pending := pend, fn, tmps, params := ps, assign, body, defers := d }) (o' := .loop .exhausted pend tm ps assign body) ⟨p, rfl, fn, tmps, d, World.putObj_heap_same (block_lt hblk), htm', ok1, ok2⟩ trivial).del h
      rw [hdel_hset] at this
      exact this
    have hS : Sim C ρ (st.at (hdel H h) nx) a (w.putObj p.a.block (.loop { state := .exhausted, pending := pend, fn, tmps, params := ps, assign, body, defers := d })) := ⟨htm, hrep', hmk⟩
    have main : s ≠ .busy → jumpK pend (st.at (hdel H h) nx) k → ∃ jump w', (Instr.endLoop p.a.block).run P w = .ok jump w' ∧ (match jump with
          | none => Q .normal a w'
          | some c => c.wpIn (FW ro) 0 P Q a w') := fun hs hm => by
      refine ⟨pend, _, run_endLoop hblk hs, ?_⟩
      generalize hdel H h = H' at hm hS
      unfold jumpK at hm
      split at hm
      · exact hk _ _ _ hm hS rfl
      · exact wpIn_ret (hk _ _ _ hm hS rfl)
      · exact wpIn_exit (hk _ _ _ hm hS rfl)
      · cases hm
    split at hend
    · cases hend
    · rename_i hs
      exact main hs hend
  · cases hend

theorem runOk_step (hO : Good P C O) (hM : P.follows .mixedOrders = true) {n : Nat} (h1 : RunOk P C O X n) (h2 : OpsOk P C O X n) (hP : PlanOk P C O X n) (h3 : LoopOk P C O X n) (h4 : CallOk P C O X n) : RunOk P C O X (n + 1) := by
  intro rh c st k hok h ρ a w Q ro hro hS hk
  cases c with
  | skip =>
    simp only [run] at h
    exact wpIn_skip (hk _ _ _ _ _ h hS (Agree.refl _ _) (Nat.le_refl _))
  | label l =>
    simp only [run] at h
    exact wpIn_label (hk _ _ _ _ _ h hS (Agree.refl _ _) (Nat.le_refl _))
  | region id ops dr =>
    unfold run at h
    simp only at h
    have fin : ∀ st' ρ' a' w', k .normal st' → Sim C ρ' st' a' w' → Agree ρ ρ' st.nx → st.nx ≤ st'.nx → Calm Q .normal a' w' := fun st' ρ' a' w' g1 g2 g3 g4 => hk .normal st' ρ' a' w' g1 g2 g3 g4
    have pins : PinsOk ρ [] (fun _ => []) := fun k x hx => by cases hx
    split at h
    · rename_i _ hall
      refine region_of_plan hM (by simpa [codeOk, regOk, hall] using hok) ?_
      have h : runPlan P O X n rh ops.toList (planOf ops) [] st (k .normal) := by
        split at h
        · rename_i p hp
          rw [h.h]
          exact h.r
        · exact h
      exact hP rh ops _ [] st _ h ρ a _ _ (Calm Q) ro hro ⟨hS.tm, hS.rep.drew, hS.mks⟩ pins fin
    · rename_i d1 d2 hnot
      clear d2
      rename_i dr
      refine region_of_walk (fun hd => ⟨hM, ?_⟩) fun G hG => ?_
      · subst hd
        have hall : allQ ops.toList = true := by
          cases hb : allQ ops.toList with
          | true => rfl
          | false => exact (hnot rfl hb).elim
        simpa [codeOk, regOk, hall] using hok
      · refine h2 rh _ ops _ 0 [] st _ h ρ a _ _ (Calm Q) ro G hro hG (Nat.zero_le _) rfl ?_ pins fin
        cases dr with
        | true => exact ⟨hS.tm, hS.rep.drew, hS.mks⟩
        | false => exact hS
  | seq x y =>
    simp only [run] at h
    obtain ⟨ok1, ok2⟩ := codeOk_seq hok
    refine wpIn_seq (h1 rh x st _ ok1 h ρ a w _ ro hro hS ?_)
    intro e st' ρ' a' w' hk' hS' hag hle
    cases e with
    | normal => exact h1 rh y st' k ok2 hk' ρ' a' w' Q ro (hro.mono (Ext.of_agree hS.rep hag)) hS' fun e st2 ρ2 a2 w2 g1 g2 g3 g4 => hk e st2 ρ2 a2 w2 g1 g2 (hag.trans g3 hle) (Nat.le_trans hle g4)
    | exit id => exact hk _ _ _ _ _ hk' hS' hag hle
    | ret => exact hk _ _ _ _ _ hk' hS' hag hle
  | cond c t f =>
    simp only [run] at h
    obtain ⟨ok1, ok2⟩ := codeOk_cond hok
    have hc := ev_R hS.tm c
    split at h
    · rename_i e he
      rw [he] at hc
      simp only [SV.R] at hc
      have h' := forkK_ok h
      refine wpIn_cond (t := e.b) hc ?_
      cases hb : e.b with
      | true =>
        rw [hb] at h'
        exact h1 rh t st k ok1 h' ρ a w Q ro hro hS hk
      | false =>
        rw [hb] at h'
        exact h1 rh f st k ok2 h' ρ a w Q ro hro hS hk
    · cases h
  | block id b =>
    simp only [run] at h
    refine wpIn_block (h1 rh b st _ hok h ρ a w _ ro hro hS ?_)
    intro e st' ρ' a' w' hk' hS' hag hle
    cases e with
    | normal => exact hk _ _ _ _ _ hk' hS' hag hle
    | exit i =>
      simp only at hk'
      simp only [Ex.to, Exit.inBlock]
      split at hk'
      · rename_i e
        have e := Nat.eq_of_beq_eq_true e
        rw [if_pos e]
        exact hk _ _ _ _ _ hk' hS' hag hle
      · rename_i e
        have e := Nat.ne_of_beq_eq_false e
        rw [if_neg e]
        exact hk _ _ _ _ _ hk' hS' hag hle
    | ret => exact hk _ _ _ _ _ hk' hS' hag hle
  | loop b =>
    simp only [run] at h
    refine LoopW.wpIn ?_
    split at h
    · exact h3 rh b st k hok h ρ a w Q ro hro hS hk
    · exact hO.lo h ρ a w Q ro hro hS hk
  | exit id =>
    simp only [run] at h
    exact wpIn_exit (hk _ _ _ _ _ h hS (Agree.refl _ _) (Nat.le_refl _))
  | ret =>
    simp only [run] at h
    exact wpIn_ret (hk _ _ _ _ _ h hS (Agree.refl _ _) (Nat.le_refl _))
  | rangeFunc g ps assign body =>
    simp only [run] at h
    obtain ⟨ok1, ok2⟩ := codeOk_range hok
    have hg := ev_R hS.tm g
    split at h
    · rename_i f x y hge
      rw [hge] at hg
      simp only [SV.R] at hg
      obtain ⟨xs, ys, hgv, hx, hy⟩ := hg
      split at h
      · -- an outermost loop
        have hro' : ro = none := by
          cases ro with
          | none => rfl
          | some l => exact hro.elim
        subst hro'
        obtain ⟨hcall, hent⟩ := h4 _ _ _ _ _ h
        refine wpIn_rangeFunc fun fn _ => ⟨_, _, _, { target := .fn (.func f) ys, args := xs ++ #[.func (.yield (w.heap.size + 1)) #[] #[]] }, (w.alloc (.deferred (some []))).alloc (.loop { state := .ready, pending := none, fn, tmps := a.tmps, params := ps, assign, body, defers := w.heap.size }),
          f, xs ++ #[.func (.yield (w.heap.size + 1)) #[] #[]] ++ ys, (w.alloc (.deferred (some []))).alloc (.loop { state := .ready, pending := none, fn, tmps := a.tmps, params := ps, assign, body, defers := w.heap.size }),
          run_enterLoop_outer fn a.tmps ps assign body, ?_, fun _ _ => trivial, ?_, fun hd => by simp [FW, Fence.wide] at hd, ?_⟩
        · simp only [resolve, hgv, Deferred.ofValue, Sem.run_pure]
          simp [Act.eval]
        · simp only [invoke]
          exact hent _ _
        · -- the two blocks
          have R1 := hS.rep.defer
          have x1 : Ext ρ ⟨ρ.f, w.heap.size :: ρ.d, ρ.o⟩ := fun _ _ h => h
          have x2 := Ext.rset (R1.fresh st.nx (Nat.le_refl _)) (some (⟨⟨(w.alloc (.deferred (some []))).heap.size, 0, none⟩, 0⟩ : Pl))
          have R2 := R1.allocO (.loop { state := .ready, pending := none, fn, tmps := a.tmps, params := ps, assign, body, defers := w.heap.size }) 0 (.loop .ready none st.tmps ps assign body)
            ⟨_, rfl, fn, a.tmps, w.heap.size, World.alloc_heap_new _ _, RL_mono (x1.trans x2) _ _ hS.tm, ok1, ok2⟩ trivial
          have hag := Agree.rset ⟨ρ.f, w.heap.size :: ρ.d, ρ.o⟩ (Nat.le_refl st.nx) (some (⟨⟨(w.alloc (.deferred (some []))).heap.size, 0, none⟩, 0⟩ : Pl))
          have p2 : rset ⟨ρ.f, w.heap.size :: ρ.d, ρ.o⟩ st.nx (some ⟨⟨(w.alloc (.deferred (some []))).heap.size, 0, none⟩, 0⟩) st.nx = some (some ⟨⟨(w.alloc (.deferred (some []))).heap.size, 0, none⟩, 0⟩) := by simp [rset]
          refine hcall _ _ _ _ none ?_ R2 ?_
          · simp only [Array.toList_append, List.append_assoc]
            refine RL_append (RL_mono (x1.trans x2) _ _ hx) ?_
            simp only [List.cons_append, List.nil_append, SV.RL]
            refine ⟨?_, RL_mono (x1.trans x2) _ _ hy⟩
            simp only [SV.R]
            exact ⟨_, p2, by simp⟩
          · intro s v H' nx' ρ' w' hend hs hrep hag' hdd hle
            have hx' := Ext.of_agree R2 hag'
            have hp' : ρ' st.nx = some (some ⟨⟨(w.alloc (.deferred (some []))).heap.size, 0, none⟩, 0⟩) := (hag'.f _ (by omega)).trans p2
            have hmk : Marks ρ' ([{ target := .collected w.heap.size, args := #[] }] ++ a.defers) := by
              have hm := hS.mks
              unfold Marks at *
              rw [hdd, hm]
              rfl
            have := endLoop_ok (a := { a with defers := [{ target := .collected w.heap.size, args := #[] }] ++ a.defers }) (Q := Q) (ro := none) (P := P) hend hrep (RL_mono hx' _ _ (RL_mono (x1.trans x2) _ _ hS.tm))
              hmk hp' fun e st' w'' g1 g2 g3 => hk _ _ _ _ _ g1 g2 ⟨fun i hi => (hag'.f i (by omega)).trans (hag.f i hi), hag'.o⟩ (by rw [g3]; omega)
            obtain ⟨jump, w4, e1, e2⟩ := this
            refine ⟨jump, w4, ?_, e2⟩
            have : (w.alloc (.deferred (some []))).heap.size = w.heap.size + 1 := by simp
            rw [this] at e1
            exact e1
      · -- a loop within a round
        rename_i hd
        split at h
        · rename_i own0 s0 pend0 tm0 ps0 as0 bd0 hf0
          obtain ⟨l0, hro', p0, hp0, hl0⟩ : ∃ l, ro = some l ∧ ∃ p, ρ hd = some (some p) ∧ p.a.block = l := by
            cases ro with
            | none => exact hro.elim
            | some l => exact ⟨l, rfl, hro⟩
          subst hro'
          obtain ⟨p0', fn0, tmps0, d0, hp0', hblk0, _⟩ := loop_at hS.rep hf0
          rw [hp0] at hp0'
          cases hp0'
          rw [hl0] at hblk0
          obtain ⟨hcall, hent⟩ := h4 _ _ _ _ _ h
          refine wpIn_rangeFunc fun fn _ => ⟨_, _, _, { target := .fn (.func f) ys, args := xs ++ #[.func (.yield w.heap.size) #[] #[]] }, w.alloc (.loop { state := .ready, pending := none, fn, tmps := a.tmps, params := ps, assign, body, defers := d0 }),
            f, xs ++ #[.func (.yield w.heap.size) #[] #[]] ++ ys, w.alloc (.loop { state := .ready, pending := none, fn, tmps := a.tmps, params := ps, assign, body, defers := d0 }),
            run_enterLoop_inner hblk0 fn a.tmps ps assign body, ?_, fun _ _ => trivial, ?_, fun hd => by simp [FW, Fence.wide] at hd, ?_⟩
          · simp only [resolve, hgv, Deferred.ofValue, Sem.run_pure]
            simp [Act.eval]
          · simp only [invoke]
            exact hent _ _
          · have x2 := Ext.rset (hS.rep.fresh st.nx (Nat.le_refl _)) (some (⟨⟨w.heap.size, 0, none⟩, 0⟩ : Pl))
            have R2 := hS.rep.allocO (.loop { state := .ready, pending := none, fn, tmps := a.tmps, params := ps, assign, body, defers := d0 }) 0 (.loop .ready none st.tmps ps assign body)
              ⟨_, rfl, fn, a.tmps, d0, World.alloc_heap_new _ _, RL_mono x2 _ _ hS.tm, ok1, ok2⟩ trivial
            have hag := Agree.rset ρ (Nat.le_refl st.nx) (some (⟨⟨w.heap.size, 0, none⟩, 0⟩ : Pl))
            have p2 : rset ρ st.nx (some ⟨⟨w.heap.size, 0, none⟩, 0⟩) st.nx = some (some ⟨⟨w.heap.size, 0, none⟩, 0⟩) := by simp [rset]
            refine hcall _ _ _ _ _ ?_ R2 ?_
            · simp only [Array.toList_append, List.append_assoc]
              refine RL_append (RL_mono x2 _ _ hx) ?_
              simp only [List.cons_append, List.nil_append, SV.RL]
              refine ⟨?_, RL_mono x2 _ _ hy⟩
              simp only [SV.R]
              exact ⟨_, p2, rfl⟩
            · intro s v H' nx' ρ' w' hend hs hrep hag' hdd hle
              have hx' := Ext.of_agree R2 hag'
              have hp' : ρ' st.nx = some (some ⟨⟨w.heap.size, 0, none⟩, 0⟩) := (hag'.f _ (by omega)).trans p2
              have hmk : Marks ρ' ([] ++ a.defers) := by
                have hm := hS.mks
                unfold Marks at *
                rw [hdd]
                exact hm
              exact endLoop_ok (a := { a with defers := [] ++ a.defers }) (Q := Q) (ro := some l0) (P := P) hend hrep (RL_mono hx' _ _ (RL_mono x2 _ _ hS.tm))
                hmk hp' fun e st' w'' g1 g2 g3 => hk _ _ _ _ _ g1 g2 (hag.trans hag' (by omega)) (by rw [g3]; omega)
        · cases h
    · cases h
  | scope b =>
    simp only [run] at h
    refine wpIn_scope (h1 rh b st _ hok h ρ a w _ ro hro hS fun e st' ρ' a' w' g1 g2 g3 g4 => ⟨?_, hk e st' ρ' a' w' g1 g2 g3 g4⟩)
    cases e <;> exact trivial
  | goto l => simp only [run] at h; cases h
  | refuse m => simp only [run] at h; cases h

structure AllOk (P : Program) (C : Cx) (O : ObsP) (X : Cfg) (n : Nat) : Prop where
  run : RunOk P C O X n
  loop : LoopOk P C O X n
  ops : OpsOk P C O X n
  plan : PlanOk P C O X n
  gn : GnOk P C O X n
  op : OpOk P C O X n
  call : CallOk P C O X n
  yield : YieldOk P C O X n
theorem sound (hO : Good P C O) (hM : P.follows .mixedOrders = true) (hin : known P X.inl = true) (hout : callable P X.out = true) : ∀ n, AllOk P C O X n
  | 0 => ⟨(fun _ _ _ _ _ h => by simp only [run] at h; cases h), (fun _ _ _ _ _ h => by simp only [runLoop] at h; cases h), (fun _ _ _ _ _ _ _ _ h => by simp only [runOps] at h; cases h), (fun _ _ _ _ _ _ h => by simp only [runPlan] at h; cases h), (fun _ _ _ _ _ _ _ _ h => by simp only [runG] at h; cases h), (fun _ _ _ _ _ _ _ _ h => by simp only [runOp] at h; cases h), (fun _ _ _ _ _ h => by simp only [runCall] at h; cases h), (fun _ _ _ _ _ h => by simp only [runYield] at h; cases h)⟩
  | n + 1 =>
    have ih := sound hO hM hin hout n
    ⟨runOk_step hO hM ih.run ih.ops ih.plan ih.loop ih.call, loopOk_step ih.run ih.loop, opsOk_step ih.gn ih.ops, planOk_step ih.gn ih.plan, gnOk_step ih.op, opOk_step ih.call ih.yield, callOk_step hO hin hout ih.run, yieldOk_step ih.run⟩
end
end Go.Sx
