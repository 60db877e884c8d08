import Derived.Test.YtpkapjlcmoikoaaSxQ
set_option linter.all false
/-
  Calls, rounds.
-/
namespace Go.Sx
open Go

section
variable {P : Program} {C : Cx} {O : ObsP} {X : Cfg}

theorem known_ok : ∀ {l : List Nat}, known P l = true → ∀ {f : Nat}, has l f = true → ∃ fn c, P.funcs[f]? = some fn ∧ (fn.name == "runtime.NumGoroutine") = false ∧ fn.body = some c ∧ codeOk c = true
  | [], _, _, hf => by cases hf
  | a :: r, h, f, hf => by
    simp only [known] at h
    split at h
    · rename_i fn hfn
      split at h
      · rename_i c hname hbody
        split at h
        · rename_i hok
          simp only [has] at hf
          split at hf
          · rename_i e
            have e := Nat.eq_of_beq_eq_true e
            subst e
            exact ⟨fn, c, hfn, hname, hbody, hok⟩
          · exact known_ok h hf
        · cases h
      · cases h
    · cases h
theorem callable_ok : ∀ {l : List Nat}, callable P l = true → ∀ {f : Nat}, has l f = true → Go.Proofs.Enters P f
  | [], _, _, hf => by cases hf
  | a :: r, h, f, hf => by
    simp only [callable] at h
    split at h
    · rename_i fn hfn
      split at h
      · rename_i c hname hbody
        simp only [has] at hf
        split at hf
        · rename_i e
          have e := Nat.eq_of_beq_eq_true e
          subst e
          exact Go.Proofs.enters_of hfn hname hbody
        · exact callable_ok h hf
      · cases h
    · cases h

theorem hdel_hset : ∀ (H : Heap) (h : Nat) (x : Bool × Ob), hdel (hset H h x) h = hdel H h
  | [], h, x => by simp [hset, hdel]
  | (g, y) :: r, h, x => by
    simp only [hset]
    cases e : Nat.beq g h with
    | true => simp only [hdel, e]
    | false => simp only [hdel, e, hdel_hset r h x]

/-- an own object that is no cells is turned -/
theorem Rep.putObj {ρ : Rho} {H : Heap} {nx : Nat} {w : World} (R : Rep C ρ H nx w) {h : Nat} {o o' : Ob} {p : Pl} (hf : hfind H h = some (true, o)) (hp : ρ h = some (some p)) (x : Obj)
    (ho : o'.R ρ (w.putObj p.a.block x) (some p)) (how : o'.own (w.putObj p.a.block x) p) : Rep C ρ (hset H h (true, o')) nx (w.putObj p.a.block x) :=
  R.write hf hp (fun _ hb => World.putObj_heap_other hb) World.putObj_size how rfl rfl rfl ho

theorem mapM_results {ρ : Rho} {H : Heap} {w : World} (hobj : ∀ h own ob, hfind H h = some (own, ob) → ∃ op, ρ h = some op ∧ ob.R ρ w op) {ts : List SV} {tmps : Array Value} (ht : SV.RL ρ ts tmps.toList)
    {φ : ResultVar → Sem Value} (f1 : ∀ t, φ (.tmp t) = pure (tmps.getD t undef)) (f2 : ∀ a t, φ (.cell a t) = (do loadVar t (← asAddr (tmps.getD a undef)))) :
    ∀ {l : List ResultVar} {a : List E} {vs : List SV}, resV P H ts l = some (a, vs) → astOk a → ∃ xs, (l.mapM φ).run P w = .ok xs w ∧ SV.RL ρ vs xs
  | [], a, vs, h, _ => by
    cases h
    exact ⟨[], by simp, by simp [SV.RL]⟩
  | .tmp t :: r, a, vs, h, ha => by
    simp only [resV] at h
    split at h
    · rename_i b l hr
      cases h
      obtain ⟨xs, h1, h2⟩ := mapM_results hobj ht f1 f2 hr ha
      refine ⟨tmps.getD t undef :: xs, by simp only [List.mapM_cons, f1, Sem.run_bind, Sem.run_pure, Result.andThen_ok, h1], ?_⟩
      simp only [SV.RL]
      refine ⟨?_, h2⟩
      have := ev_R (a := { tmps, defers := [] }) ht (.tmp t)
      simpa [ev, Act.eval] using this
    · cases h
  | .cell c t :: r, a, vs, h, ha => by
    simp only [resV] at h
    split at h
    · rename_i x b l hx hr
      cases h
      obtain ⟨a1, a2⟩ := astOk_app ha
      obtain ⟨xs, h1, h2⟩ := mapM_results hobj ht f1 f2 hr a2
      obtain ⟨v, hv, hrun⟩ := loadQ_ok (P := P) (w := w) (o := { dst := none, op := .load t (.tmp c), type := 0, pos := "", after := #[], guard := none }) (x := .tmp c) (g := ({ tmps, defers := [] } : Act).eval) (f := ev ts) rfl (ev_R (a := { tmps, defers := [] }) ht) hobj hx a1
      have hrun := hrun w (fun _ _ _ _ => rfl)
      have hld : ∃ ad, tmps.getD c undef = .pointer (some ad) ∧ (loadVar t ad).run P w = .ok v w := by
        unfold loadQ at hx
        split at hx
        · rename_i hd off hfx
          have hg := ev_R (a := { tmps, defers := [] }) ht (.tmp c)
          rw [ev] at hg
          rw [hfx] at hg
          simp only [SV.R] at hg
          obtain ⟨_, p, _, hgx⟩ := hg
          refine ⟨p.a.add off.n, by simpa [Act.eval] using hgx, ?_⟩
          unfold execOp at hrun
          simp only [Instr.loadAt, hgx, Instr.sureAddr, Sem.run_bind, Sem.run_pure, Result.andThen_ok] at hrun
          cases hl : (loadVar t (p.a.add off.n)).run P w with
          | ok v' w' =>
            rw [hl] at hrun
            simp only [Result.andThen_ok] at hrun
            cases hrun
            rfl
          | halt e w' =>
            rw [hl] at hrun
            cases hrun
        · cases hx
      obtain ⟨ad, had, hl⟩ := hld
      refine ⟨v :: xs, by simp only [List.mapM_cons, f2, had, asAddr, Sem.run_bind, Sem.run_pure, Result.andThen_ok, hl, h1], ?_⟩
      simp only [SV.RL]
      exact ⟨hv, h2⟩
    · cases h

theorem results_ok {ρ : Rho} {H : Heap} {w : World} {fn : Func} (hobj : ∀ h own ob, hfind H h = some (own, ob) → ∃ op, ρ h = some op ∧ ob.R ρ w op) {ts : List SV} {tmps : Array Value} (ht : SV.RL ρ ts tmps.toList) {a : List E} {vs : List SV} (h : resV P H ts fn.results.toList = some (a, vs)) (ha : astOk a) :
    ∃ v, (results fn tmps).run P w = .ok v w ∧ SV.R ρ (one vs) v := by
  obtain ⟨φ, f1, f2, hφ⟩ : ∃ φ : ResultVar → Sem Value, (∀ t, φ (.tmp t) = pure (tmps.getD t undef)) ∧ (∀ a t, φ (.cell a t) = (do loadVar t (← asAddr (tmps.getD a undef)))) ∧ results fn tmps = (do
      let vs ← fn.results.mapM φ
      pure (if h : vs.size = 1 then vs[0] else .tuple vs)) := ⟨_, fun _ => rfl, fun _ _ => rfl, rfl⟩
  obtain ⟨xs, h1, h2⟩ := mapM_results (P := P) hobj ht f1 f2 h ha
  refine ⟨if h : xs.toArray.size = 1 then xs.toArray[0] else .tuple xs.toArray, ?_, ?_⟩
  · rw [hφ, Array.mapM_eq_mapM_toList]
    simp only [Sem.run_bind, map_eq_pure_bind, Sem.run_pure]
    rw [h1]
    simp only [Result.andThen_ok]
  · have hlen := RL_length h2
    match vs, xs, h2, hlen with
    | [s], [x], h2, _ =>
      simp only [SV.RL] at h2
      simpa [one] using h2.1
    | [], [], _, _ => simp [one, SV.R, SV.RL]
    | s :: s2 :: r, x :: x2 :: r2, h2, _ =>
      simp only [one, SV.R]
      exact ⟨(x :: x2 :: r2).toArray, by simp, h2⟩

theorem leaves_ok {fn : Func} {tmps : Array Value} {R : Ending → World → Prop} {nx : Nat} {H : Heap} : ∀ (D : List Nat) (ρ : Rho) (w : World), ρ.d = D → Rep C ρ H nx w →
    (∀ w', Rep C ⟨ρ.f, [], ρ.o⟩ H nx w' → ∃ v, (results fn tmps).run P w' = .ok v w' ∧ R (.returned v) w') → LeavesInM (FW none) 0 P fn tmps R (D.map fun b => { target := .collected b, args := #[] }) .returning w
  | [], ρ, w, hd, R, hr => by
    obtain ⟨f, d, o⟩ := ρ
    subst hd
    exact hr w R
  | b :: r, ρ, w, hd, R, hr => by
    have hblk := R.dfr.blk b (by rw [hd]; simp)
    have R' := R.undefer (w' := w.putObj b (.deferred none)) hd (fun c hc => World.putObj_heap_other hc) World.putObj_size rfl rfl rfl
    exact ⟨by simp, .inl ⟨_, _, rfl, run_takeDeferred hblk, leaves_ok r _ _ rfl R' hr⟩⟩

theorem finish_ok {fn : Func} {st : St} {k : SV → Heap → Nat → Prop} (h : finish P fn st k) {ρ : Rho} {a : Act} {w : World} (hS : Sim C ρ st a w) {R : Ending → World → Prop}
    (hk : ∀ s v w', k s st.heap st.nx → SV.R ⟨ρ.f, [], ρ.o⟩ s v → Rep C ⟨ρ.f, [], ρ.o⟩ st.heap st.nx w' → R (.returned v) w') : LeavesInM (FW none) 0 P fn a.tmps R a.defers .returning w := by
  unfold finish at h
  have hx : Ext ρ ⟨ρ.f, [], ρ.o⟩ := fun _ _ h => h
  split at h
  · rename_i asr vs hres
    obtain ⟨ha, hk'⟩ := asts_ok h
    rw [hS.mks]
    exact leaves_ok _ _ _ rfl hS.rep fun w' hR => by
      obtain ⟨v, hv, hr⟩ := results_ok (P := P) hR.obj (RL_mono hx _ _ hS.tm) hres ha
      exact ⟨v, hv, hk _ v w' hk' hr hR⟩
  · cases h

theorem replicate_R (ρ : Rho) (n : Nat) : SV.RL ρ (List.replicate n (.lit undef)) (List.replicate n undef) :=
  RL_of_get (by simp) fun i s v h1 h2 => by
    simp only [List.getElem?_replicate] at h1 h2
    split at h1
    · rename_i hi
      rw [if_pos hi] at h2
      cases h1; cases h2
      simp only [SV.R]
    · cases h1

theorem callOk_step (hO : Good P C O) (hin : known P X.inl = true) (hout : callable P X.out = true) {n : Nat} (h1 : RunOk P C O X n) : CallOk P C O X (n + 1) := by
  intro f args H nx k h
  simp only [runCall] at h
  split at h
  · rename_i hf
    obtain ⟨fn, c, e1, e2, e3, e4⟩ := known_ok hin hf
    refine ⟨?_, Go.Proofs.enters_of e1 e2 e3⟩
    simp only [e1, e3] at h
    have hS := h1 none c _ _ e4 h
    intro ρ vs w R ro hargs hrep hk
    have hlen := RL_length hargs
    have hlen' : args.length = vs.size := by simpa using hlen
    have hx0 : Ext ρ ⟨ρ.f, [], ρ.d ++ ρ.o⟩ := fun _ _ h => h
    refine callsIn_of_wp_marks (F := FW none) e1 e3 trivial (hS ⟨ρ.f, [], ρ.d ++ ρ.o⟩ _ w _ none trivial ⟨?_, hrep.marks [] (ρ.d ++ ρ.o) (List.Sublist.refl _), rfl⟩ ?_) rfl
    · simp only [Array.toList_append, Array.toList_replicate, hlen']
      exact RL_mono hx0 _ _ (RL_append hargs (replicate_R ρ _))
    · intro e st' ρ' a' w' hk' hS' hag hle
      have key : finish P fn st' k → LeavesInM (FW none) 0 P fn a'.tmps R a'.defers .returning w' := fun hfin =>
        finish_ok hfin hS' fun s v w'' h2 h3 h4 => hk s v st'.heap st'.nx ⟨ρ'.f, ρ.d, ρ.o⟩ w'' h2 (R_mono (ρ := ⟨ρ'.f, [], ρ'.o⟩) (ρ' := ⟨ρ'.f, ρ.d, ρ.o⟩) (fun _ _ h => h) _ _ h3) (h4.marks ρ.d ρ.o (by rw [hag.o]; exact List.Sublist.refl _)) ⟨hag.f, rfl⟩ rfl hle
      cases e with
      | normal => exact key hk'
      | ret => exact key hk'
      | exit id => cases hk'
  · split at h
    · rename_i hf
      exact ⟨hO.co h, callable_ok hout hf⟩
    · cases h

theorem bind_R {ρ : Rho} : ∀ (ps : List Tmp) (vs : List SV) (xs : List Value) (tm : List SV) (tmps : Array Value), SV.RL ρ vs xs → SV.RL ρ tm tmps.toList →
    SV.RL ρ (bindT ps vs tm) ((ps.zip xs).foldl (fun (tmps : Array Value) (t, a) => tmps.setIfInBounds t a) tmps).toList
  | [], vs, xs, tm, tmps, _, h => by
    cases vs <;> simpa [bindT] using h
  | p :: ps, [], [], tm, tmps, _, h => by simpa [bindT] using h
  | p :: ps, [], x :: xs, tm, tmps, hv, h => by simp [SV.RL] at hv
  | p :: ps, v :: vs, [], tm, tmps, hv, h => by simp [SV.RL] at hv
  | p :: ps, v :: vs, x :: xs, tm, tmps, hv, h => by
    simp only [SV.RL] at hv
    simp only [bindT, List.zip_cons_cons, List.foldl_cons]
    refine bind_R ps vs xs _ _ hv.2 ?_
    rw [setT_eq, Array.toList_setIfInBounds]
    exact RL_set h p hv.1

theorem loop_at {ρ : Rho} {H : Heap} {nx : Nat} {w : World} (R : Rep C ρ H nx w) {h : Nat} {own : Bool} {s : LoopState} {pend : Option Code} {tm : List SV} {ps : Array Tmp} {assign body : Code} (hf : hfind H h = some (own, .loop s pend tm ps assign body)) :
    ∃ p fn tmps d, ρ h = some (some p) ∧ w.heap[p.a.block]? = some (.loop { state := s, pending := pend, fn, tmps, params := ps, assign, body, defers := d }) ∧ SV.RL ρ tm tmps.toList ∧ codeOk assign = true ∧ codeOk body = true := by
  obtain ⟨op, h1, p, rfl, fn, tmps, d, h2, h3, h4, h5⟩ := R.obj _ _ _ hf
  exact ⟨p, fn, tmps, d, h1, h2, h3, h4, h5⟩

theorem yieldOk_step {n : Nat} (h1 : RunOk P C O X n) : YieldOk P C O X (n + 1) := by
  intro h args H nx k hrun ρ vs w R ro hargs hrep hk
  simp only [runYield] at hrun
  split at hrun
  · rename_i s pend tm ps assign body hf
    split at hrun
    · rename_i hsz
      have hsz := Nat.eq_of_beq_eq_true hsz
      obtain ⟨p, fn, tmps, d, hp, hblk, htm, ok1, ok2⟩ := loop_at hrep hf
      have hlen := RL_length hargs
      have hlen' : vs.size = ps.size := by rw [← hsz, hlen]; simp
      refine ⟨p, fn, _, assign, body, hp, run_yield hblk hlen', roundIn_of_wpIn (F := FW ro) trivial ?_⟩
      have hfold : ((ps.zip vs).foldl (fun (tmps : Array Value) (t, a) => tmps.setIfInBounds t a) tmps) = ((ps.toList.zip vs.toList).foldl (fun (tmps : Array Value) (t, a) => tmps.setIfInBounds t a) tmps) := by
        rw [← Array.foldl_toList, Array.toList_zip]
      have hA := h1 (some h) assign _ _ ok1 hrun
      have hx0 : Ext ρ ⟨ρ.f, [], ρ.d ++ ρ.o⟩ := fun _ _ h => h
      refine hA ⟨ρ.f, [], ρ.d ++ ρ.o⟩ { tmps := _, defers := [] } w _ (some p.a.block) ⟨p, hp, rfl⟩ ⟨?_, hrep.marks [] (ρ.d ++ ρ.o) (List.Sublist.refl _), rfl⟩ ?_
      · rw [hfold]
        exact RL_mono hx0 _ _ (bind_R _ _ _ _ _ hargs htm)
      · intro e st1 ρ1 a1 w1 hk1 hS1 hag1 hle1
        cases e with
        | exit id => cases hk1
        | ret => cases hk1
        | normal =>
          simp only at hk1
          split at hk1
          · rename_i s' pend' tm' ps' assign' body' hf1
            split at hk1
            · obtain ⟨p1, fn1, tmps1, d1, hp1, hblk1, htm1, ok3, ok4⟩ := loop_at hS1.rep hf1
              have e1 : p1 = p := by
                rw [hag1.f h (hfind_lt hrep hf), hp] at hp1
                cases hp1
                rfl
              subst e1
              refine ⟨_, run_beginRound hblk1 rfl, ?_⟩
              have hrep1 := hS1.rep.putObj hf1 hp1 (.loop { state := .busy, pending := pend', fn := fn1, tmps := tmps1, params := ps', assign := assign', body := body', defers := d1 }) (o' := .loop .busy pend' tm' ps' assign' body')
                ⟨p1, rfl, fn1, tmps1, d1, World.putObj_heap_same (block_lt hblk1), htm1, ok3, ok4⟩ trivial
              have hB := h1 (some h) body _ _ ok2 hk1
              refine hB ρ1 a1 _ _ (some p1.a.block) ⟨p1, hp1, rfl⟩ ⟨hS1.tm, hrep1, hS1.mks⟩ ?_
              intro e st2 ρ2 a2 w2 hk2 hS2 hag2 hle2
              unfold endRound at hk2
              split at hk2
              · rename_i s2 pend2 tm2 ps2 as2 bd2 hf2
                obtain ⟨p2, fn2, tmps2, d2, hp2, hblk2, htm2, ok5, ok6⟩ := loop_at hS2.rep hf2
                have e2 : p2 = p1 := by
                  have hlt1 : h < st1.nx := hfind_lt hS1.rep hf1
                  rw [hag2.f h hlt1, hp1] at hp2
                  cases hp2
                  rfl
                subst e2
                have fin : ∀ (jump : Option Code) (st' : LoopState), (if jump.isNone = true then LoopState.ready else LoopState.done) = st' →
                    k (.bool (.bl jump.isNone)) (hset st2.heap h (true, .loop st' jump tm2 ps2 as2 bd2)) st2.nx →
                    ∃ v w', (Instr.endRound p2.a.block jump).run P w2 = .ok v w' ∧ R (.returned v) w' := fun jump st' hst hkk => by
                  refine ⟨_, _, run_endRound jump hblk2, ?_⟩
                  have R3 := hS2.rep.putObj hf2 hp2 (o' := .loop st' jump tm2 ps2 as2 bd2) (.loop { state := st', pending := jump, fn := fn2, tmps := tmps2, params := ps2, assign := as2, body := bd2, defers := d2 }) ⟨p2, rfl, fn2, tmps2, d2, by rw [World.putObj_heap_same (block_lt hblk2)], htm2, ok5, ok6⟩ trivial
                  have ho : ρ2.o = ρ.d ++ ρ.o := hag2.o.trans hag1.o
                  subst hst
                  exact hk _ _ _ _ ⟨ρ2.f, ρ.d, ρ.o⟩ _ hkk (by simp only [SV.R, E.b_bl]) (R3.marks ρ.d ρ.o (by rw [ho]; exact List.sublist_append_right _ _)) ⟨fun i hi => (hag2.f i (Nat.lt_of_lt_of_le hi hle1)).trans (hag1.f i hi), rfl⟩ rfl (Nat.le_trans hle1 hle2)
                cases e with
                | normal => exact fin none .ready rfl hk2
                | ret => exact fin (some .ret) .done rfl hk2
                | exit id => exact fin (some (.exit id)) .done rfl hk2
              · cases hk2
            · cases hk1
          · cases hk1
    · cases hrun
  · cases hrun
end
end Go.Sx
