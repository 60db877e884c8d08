import Derived.Test.YtpkapjlcmoikoaaSxP
set_option linter.all false
/-
  What the runner asks is enough.
-/
namespace Go.Sx
open Go

theorem asts_ok : ∀ {l : List E} {A : Prop}, asts l A → astOk l ∧ A
  | [], _, h => ⟨(fun e he => by cases he), h⟩
  | e :: r, A, h => by
    simp only [asts] at h
    split at h
    · obtain ⟨h1, h2⟩ := asts_ok h
      exact ⟨fun x hx => (List.mem_cons.1 hx).elim (fun e => by rw [e]; rfl) (h1 x), h2⟩
    · obtain ⟨h1, h2⟩ := asts_ok h.f
      exact ⟨fun x hx => (List.mem_cons.1 hx).elim (fun e => by rw [e]; exact h.t) (h1 x), h2⟩
theorem fork_ok {e : E} {K : Bool → Prop} (h : fork e K) : K e.b := by
  unfold fork at h
  split at h
  · exact h
  · cases hb : e.b with
    | true => exact h.t hb
    | false => exact h.f hb
theorem forkK_ok {kn : Nat → Option Bool} {c : Operand} {e : E} {K : Bool → Prop} (h : forkK kn c e K) : K e.b := by
  have br : ∀ {e : E}, Br e (K true) (K false) → K e.b := fun {e} h => by
    cases hb : e.b with
    | true => exact h.t hb
    | false => exact h.f hb
  unfold forkK at h
  split at h
  · exact h
  · split at h
    · split at h
      · rw [h.h]; exact h.r
      · exact br h
    · exact br h

section
variable {P : Program} {C : Cx} {O : ObsP} {X : Cfg}

theorem Sim.put {ρ : Rho} {st : St} {a : Act} {w : World} (h : Sim C ρ st a w) (d : Option Tmp) {s : SV} {v : Value} (hs : SV.R ρ s v) : Sim C ρ (st.put d s) (a.put d v) w := by
  cases d with
  | none => exact h
  | some t =>
    refine ⟨?_, h.rep, h.mks⟩
    simp only [St.put, Act.put, setT_eq, Array.toList_setIfInBounds]
    exact RL_set h.tm t hs
theorem RL_know {ρ : Rho} {l : List SV} {r : List Value} (h : SV.RL ρ l r) {d : Nat} {s s' : SV} (hs : l[d]? = some s) (hv : ∀ v, SV.R ρ s v → SV.R ρ s' v) : SV.RL ρ (l.set d s') r := by
  refine RL_of_get (by rw [List.length_set]; exact RL_length h) fun i x v h1 h2 => ?_
  by_cases e : d = i
  · subst e
    have hl : d < l.length := (List.getElem?_eq_some_iff.1 hs).1
    rw [List.getElem?_set_self hl] at h1
    cases h1
    obtain ⟨v', h3, h4⟩ := RL_get h d s hs
    rw [h2] at h3
    cases h3
    exact hv _ h4
  · rw [List.getElem?_set_ne e] at h1
    obtain ⟨v', h3, h4⟩ := RL_get h i x h1
    rw [h2] at h3
    cases h3
    exact h4

theorem getT_some {l : List SV} {d : Nat} {s : SV} (h : getT l d = s) (hne : s ≠ .any) : l[d]? = some s := by
  rw [getT_eq] at h
  cases hd : l[d]? with
  | none => rw [List.getD_eq_getElem?_getD, hd] at h; exact absurd h.symm hne
  | some x => rw [List.getD_eq_getElem?_getD, hd] at h; simp at h; rw [h]

theorem Sim.know {ρ : Rho} {st : St} {a : Act} {w : World} (h : Sim C ρ st a w) {d : Tmp} {e : E} (hd : getT st.tmps d = .bool e) {b : Bool} (hb : e.b = b) : Sim C ρ (st.put (some d) (.bool (.bl b))) a w := by
  refine ⟨?_, h.rep, h.mks⟩
  simp only [St.put, setT_eq]
  exact RL_know h.tm (getT_some hd (by simp)) fun v hv => by simp only [SV.R, E.b_bl] at hv ⊢; rw [hv, hb]

theorem guard_val {ops : Array Oper} {o : Oper} {j : Nat} {want : Bool} {ts : List SV} {tmps : Array Value} {ρ : Rho} (h : SV.RL ρ ts tmps.toList) (hg : o.guard = some (j, want)) {oj : Oper} (hj : ops.toList[j]? = some oj) {d : Tmp} (hd : oj.dst = some d) {s : SV} (hs : getT ts d = s) (hne : s ≠ .any) :
    ∃ v, SV.R ρ s v ∧ Region.wanted o (yielded ops tmps) = (match v with | .bool b => b == want | _ => false) := by
  obtain ⟨v, h1, h2⟩ := RL_get h d s (getT_some hs hne)
  refine ⟨v, h2, ?_⟩
  have h1' : tmps[d]? = some v := by simpa using h1
  have hj' : ops[j]? = some oj := by simpa using hj
  have hw : Region.wanted o (yielded ops tmps) = (yielded ops tmps j == some want) := by
    unfold Region.wanted
    rw [hg]
  rw [hw]
  unfold yielded
  rw [hj']
  simp only [Option.bind_some, hd, h1']
  cases v <;> simp

theorem guard_yes {ops : Array Oper} {o : Oper} {ts : List SV} {tmps : Array Value} {ρ : Rho} (h : SV.RL ρ ts tmps.toList) (hg : guardOf ops.toList o ts = .yes) : Region.wanted o (yielded ops tmps) = true := by
  unfold guardOf at hg
  split at hg
  · rename_i hn
    simp [Region.wanted, hn]
  · rename_i j want hn
    split at hg
    · cases hg
    · rename_i oj hj
      split at hg
      · cases hg
      · rename_i d hd
        split at hg
        · rename_i b ht
          obtain ⟨v, hv, hw⟩ := guard_val h hn hj hd ht (by simp)
          simp only [SV.R, E.b_bl] at hv
          subst hv
          rw [hw]
          cases b <;> cases want <;> simp_all
        · cases hg
        · rename_i b ht
          obtain ⟨v, hv, hw⟩ := guard_val h hn hj hd ht (by simp)
          simp only [SV.R] at hv
          subst hv
          rw [hw]
          cases b <;> cases want <;> simp_all
        · cases hg
        · cases hg
theorem guard_no {ops : Array Oper} {o : Oper} {ts : List SV} {tmps : Array Value} {ρ : Rho} (h : SV.RL ρ ts tmps.toList) (hg : guardOf ops.toList o ts = .no) : Region.wanted o (yielded ops tmps) = false := by
  unfold guardOf at hg
  split at hg
  · cases hg
  · rename_i j want hn
    split at hg
    · rename_i hj
      have hj' : ops[j]? = none := by simpa using hj
      simp [Region.wanted, hn, yielded, hj']
    · rename_i oj hj
      have hj' : ops[j]? = some oj := by simpa using hj
      split at hg
      · rename_i hd
        simp [Region.wanted, hn, yielded, hj', hd]
      · rename_i d hd
        split at hg
        · rename_i b ht
          obtain ⟨v, hv, hw⟩ := guard_val h hn hj hd ht (by simp)
          simp only [SV.R, E.b_bl] at hv
          subst hv
          rw [hw]
          cases b <;> cases want <;> simp_all
        · cases hg
        · rename_i b ht
          obtain ⟨v, hv, hw⟩ := guard_val h hn hj hd ht (by simp)
          simp only [SV.R] at hv
          subst hv
          rw [hw]
          cases b <;> cases want <;> simp_all
        · rename_i v hnb ht
          obtain ⟨v', hv, hw⟩ := guard_val h hn hj hd ht (by simp)
          simp only [SV.R] at hv
          subst hv
          rw [hw]
          split
          · rename_i b
            exact absurd rfl (hnb b)
          · rfl
        · cases hg
theorem guard_ask {ops : Array Oper} {o : Oper} {ts : List SV} {tmps : Array Value} {ρ : Rho} (h : SV.RL ρ ts tmps.toList) {d : Tmp} {e : E} {want : Bool} (hg : guardOf ops.toList o ts = .ask d e want) :
    getT ts d = .bool e ∧ Region.wanted o (yielded ops tmps) = (e.b == want) := by
  unfold guardOf at hg
  split at hg
  · cases hg
  · rename_i j want' hn
    split at hg
    · cases hg
    · rename_i oj hj
      split at hg
      · cases hg
      · rename_i d' hd
        split at hg
        · rename_i b ht
          cases b <;> cases want' <;> simp at hg
        · rename_i e' _ ht
          cases hg
          obtain ⟨v, hv, hw⟩ := guard_val h hn hj hd ht (by simp)
          simp only [SV.R] at hv
          subst hv
          exact ⟨ht, hw⟩
        · rename_i b ht
          cases b <;> cases want' <;> simp at hg
        · cases hg
        · cases hg

theorem quietOp_pure {H : Heap} {f : Operand → SV} {op : Op} {r : QR} (h : quietOp P H f op = some r) (hp : isPure op = true) : r.rd = none := by
  unfold quietOp at h
  split at h
  all_goals try first
    | (cases h; rfl)
    | (cases hp; done)
  all_goals (try unfold pickQ at h)
  all_goals (try unfold unQ at h)
  all_goals (try unfold convQ at h)
  all_goals (try unfold sliceQ at h)
  all_goals (try unfold fieldAddrQ at h)
  all_goals (try unfold fieldQ at h)
  all_goals (try unfold indexAddrQ at h)
  all_goals (try unfold indexQ at h)
  all_goals (repeat' split at h)
  all_goals (try unfold builtinQ at h)
  all_goals (repeat' split at h)
  all_goals (try unfold lenQ at h)
  all_goals (repeat' split at h)
  all_goals first
    | (cases h; rfl)
    | (cases h; done)

theorem newOp_ok {H : Heap} {nx : Nat} {ρ : Rho} {w : World} {g : Operand → Value} {f : Operand → SV} {o : Oper} {r : NR} (hR : RO ρ f g) (R : Rep C ρ H nx w) (h : newOp P H nx f o.op = some r) (ha : astOk r.ast) :
    NOk P C ρ nx g o r w ∧ ∀ c, o.op ≠ .defer c := by
  refine ⟨?_, fun c e => by rw [e] at h; cases h⟩
  unfold newOp at h
  split at h
  · rename_i t hop
    exact allocN_ok hop R h
  · rename_i t x hop
    exact boxN_ok hop hR R h
  · rename_i t len parts hop
    exact buildSliceN_ok hop hR R h
  · rename_i t a x hop
    exact storeN_ok hop hR R h ha
  · rename_i c hop
    split at h
    · rename_i hc
      split at h
      · rename_i t t' s x hty hargs
        split at h
        · rename_i ht
          have ht := Nat.eq_of_beq_eq_true ht
          subst ht
          exact appendN_ok hop hc hty hargs hR R h ha
        · cases h
      · cases h
    · cases h
  · cases h

def PinsOk (ρ : Rho) (rds : List (Nat × Nat)) (pins : Nat → List Nat) : Prop := ∀ k x, x ∈ pins k → ∃ h p, (k, h) ∈ rds ∧ ρ h = some (some p) ∧ p.a.block = x
theorem PinsOk.mono {ρ ρ' : Rho} (hx : Ext ρ ρ') {rds : List (Nat × Nat)} {pins : Nat → List Nat} (h : PinsOk ρ rds pins) : PinsOk ρ' rds pins := fun k x hk => by
  obtain ⟨g, p, h1, h2, h3⟩ := h k x hk
  exact ⟨g, p, h1, hx _ _ h2, h3⟩
/-- an operation that is wanted -/
def OpOk (P : Program) (C : Cx) (O : ObsP) (X : Cfg) (n : Nat) : Prop := ∀ rh dr all i o rds st k, runOp P O X n rh dr all i o rds st k →
  (isQ o.op = true → ∀ ρ a w pins, Sim C ρ st a w → PinsOk ρ rds pins → ∃ s v b rds', (∀ w', (∀ x ∈ b, w'.heap[x]? = w.heap[x]?) → (execOp a.eval o).run P w' = .ok (.value v) w') ∧ (isPure o.op = true → b = []) ∧ SV.R ρ s v ∧ PinsOk ρ rds' (upd pins i b) ∧ k rds' (st.put o.dst s)) ∧
  (isQ o.op = false → ∀ ρ a w pins ro Q (K : Act → World → Prop), RoOk ρ rh ro → Sim C ρ st a w → PinsOk ρ rds pins → (∀ rds' st' ρ' a' w', k rds' st' → Sim C ρ' st' a' w' → Agree ρ ρ' st.nx → st.nx ≤ st'.nx → PinsOk ρ' rds' pins → K a' w') →
    o.wpIn (FW ro) 0 P a w (fun a' w' => (dr = true → isNew o.op = true → ∀ k, ((depT all []).getD i 0).testBit k = false → ∀ x ∈ pins k, w'.heap[x]? = w.heap[x]?) ∧ K a' w') Q)
def OpsOk (P : Program) (C : Cx) (O : ObsP) (X : Cfg) (n : Nat) : Prop := ∀ rh dr (ops : Array Oper) rest i rds st k, runOps P O X n rh dr ops.toList rest i rds st k →
  ∀ ρ a w pins Q ro G, RoOk ρ rh ro → Walks dr ro P ops Q G → i ≤ ops.size → ops.toList.drop i = rest → Sim C ρ st a w → PinsOk ρ rds pins → (∀ st' ρ' a' w', k st' → Sim C ρ' st' a' w' → Agree ρ ρ' st.nx → st.nx ≤ st'.nx → Q .normal a' w') → G i pins a w
def CallOk (P : Program) (C : Cx) (O : ObsP) (X : Cfg) (n : Nat) : Prop := ∀ f args H nx k, runCall P O X n f args H nx k → SndCall P C f args H nx k ∧ Go.Proofs.Enters P f
def YieldOk (P : Program) (C : Cx) (O : ObsP) (X : Cfg) (n : Nat) : Prop := ∀ h args H nx k, runYield P O X n h args H nx k → ∀ ρ vs w (R : Ending → World → Prop) ro, SV.RL ρ args vs.toList → Rep C ρ H nx w →
  (∀ s v H' nx' ρ' w', k s H' nx' → SV.R ρ' s v → Rep C ρ' H' nx' w' → Agree ρ ρ' nx → ρ'.d = ρ.d → nx ≤ nx' → R (.returned v) w') →
  ∃ p fn tmps asg bd, ρ h = some (some p) ∧ (Instr.yield p.a.block vs).run P w = .ok (.round p.a.block fn tmps asg bd) w ∧ RoundIn (FW ro) 0 P p.a.block fn tmps asg bd w R
def RunOk (P : Program) (C : Cx) (O : ObsP) (X : Cfg) (n : Nat) : Prop := ∀ rh c st k, codeOk c = true → run P O X n rh c st k → Snd P C rh c st k
def LoopOk (P : Program) (C : Cx) (O : ObsP) (X : Cfg) (n : Nat) : Prop := ∀ rh c st k, codeOk c = true → runLoop P O X n rh c st k → SndLoop P C rh c st k

theorem Sim.ext {ρ ρ' : Rho} {st : St} {a : Act} {w w' : World} {H : Heap} {nx : Nat} (h : Sim C ρ st a w) (hx : Ext ρ ρ') (hd : ρ'.d = ρ.d) (R : Rep C ρ' H nx w') : Sim C ρ' (st.at H nx) a w' :=
  ⟨RL_mono hx _ _ h.tm, R, by have := h.mks; unfold Marks at *; rw [hd]; exact this⟩

theorem St.put_nx (st : St) (d : Option Tmp) (v : SV) : (st.put d v).nx = st.nx := by cases d <;> rfl
theorem St.put_heap (st : St) (d : Option Tmp) (v : SV) : (st.put d v).heap = st.heap := by cases d <;> rfl
theorem St.put_tmps (st : St) (d : Option Tmp) (v : SV) : (st.put d v).mks = st.mks := by cases d <;> rfl

/-- an operation, its guard asked -/
theorem gOk (n : Nat) {rh : Option Nat} {dr : Bool} {ops : Array Oper} {i : Nat} {o : Oper} {rds : List (Nat × Nat)} {st : St} {k : List (Nat × Nat) → St → Prop} (h : runG P O X (n + 1) rh dr ops.toList i o rds st k) {ρ : Rho} {a : Act} {w : World} (hS : Sim C ρ st a w) :
    ∃ st1, st1.nx = st.nx ∧ Sim C ρ st1 a w ∧ ((Region.wanted o (yielded ops a.tmps) = true ∧ runOp P O X n rh dr ops.toList i o rds st1 k) ∨ (Region.wanted o (yielded ops a.tmps) = false ∧ k rds (st1.put o.dst (.lit undef)))) := by
  simp only [runG] at h
  split at h
  · rename_i hg
    exact ⟨st, rfl, hS, .inl ⟨guard_yes hS.tm hg, h⟩⟩
  · rename_i hg
    exact ⟨st, rfl, hS, .inr ⟨guard_no hS.tm hg, h⟩⟩
  · rename_i d e want hg
    obtain ⟨gd, gw⟩ := guard_ask hS.tm hg
    split at h
    · rename_i b hkn
      have hb := h.h
      have h3 := h.r
      have hS1 := hS.know gd hb
      rw [hb] at gw
      cases b with
      | true =>
        cases want with
        | true => exact ⟨_, St.put_nx _ _ _, hS1, .inl ⟨gw, h3⟩⟩
        | false => exact ⟨_, St.put_nx _ _ _, hS1, .inr ⟨gw, h3⟩⟩
      | false =>
        cases want with
        | true => exact ⟨_, St.put_nx _ _ _, hS1, .inr ⟨gw, h3⟩⟩
        | false => exact ⟨_, St.put_nx _ _ _, hS1, .inl ⟨gw, h3⟩⟩
    cases hb : e.b with
    | true =>
      have h3 := h.t hb
      have hS1 := hS.know gd hb
      rw [hb] at gw
      cases want with
      | true => exact ⟨_, St.put_nx _ _ _, hS1, .inl ⟨gw, h3⟩⟩
      | false => exact ⟨_, St.put_nx _ _ _, hS1, .inr ⟨gw, h3⟩⟩
    | false =>
      have h3 := h.f hb
      have hS1 := hS.know gd hb
      rw [hb] at gw
      cases want with
      | true => exact ⟨_, St.put_nx _ _ _, hS1, .inr ⟨gw, h3⟩⟩
      | false => exact ⟨_, St.put_nx _ _ _, hS1, .inl ⟨gw, h3⟩⟩
  · cases h

/-- an operation behind its guard, and what comes then -/
def GnOk (P : Program) (C : Cx) (O : ObsP) (X : Cfg) (n : Nat) : Prop := ∀ rh dr (ops : Array Oper) i o rds st k, runG P O X n rh dr ops.toList i o rds st k → ∀ ρ a w pins Q ro (K : (Nat → List Nat) → Act → World → Prop), ops[i]? = some o → RoOk ρ rh ro → Sim C ρ st a w → PinsOk ρ rds pins →
  (∀ rds' st' ρ' a' w' pins', k rds' st' → Sim C ρ' st' a' w' → Agree ρ ρ' st.nx → st.nx ≤ st'.nx → PinsOk ρ' rds' pins' → K pins' a' w') → StepP dr ro P ops Q (fun j => (depT ops.toList []).getD j 0) i pins K a w

theorem gnOk_step {n : Nat} (h1 : OpOk P C O X n) : GnOk P C O X (n + 1) := by
  intro rh dr ops i o rds st k h ρ a w pins Q ro K ho hro hS hpn hk
  obtain ⟨st1, hnx, hS1, hor⟩ := gOk n h hS
  have same : ∀ {w' : World}, (dr = true → isNew o.op = true → ∀ k, ((depT ops.toList []).getD i 0).testBit k = false → ∀ x ∈ pins k, w'.heap[x]? = w.heap[x]?) → dr = true → Leaves1 (fun j => (depT ops.toList []).getD j 0) ops i pins w w' := fun h hd o' ho' hn k hb x hx => by
    rw [ho] at ho'
    cases ho'
    exact h hd hn k hb x hx
  refine ⟨o, ho, ?_⟩
  rcases hor with ⟨hw, hrun⟩ | ⟨hw, hrun⟩
  · obtain ⟨g1, g2⟩ := h1 rh dr _ i o rds st1 _ hrun
    cases hq : isQ o.op with
    | true =>
      obtain ⟨s, v, b, rds', e1, e2, e3, e4, e5⟩ := g1 hq ρ a w pins hS1 hpn
      exact .inl ⟨rfl, v, b, .inl ⟨hw, e1⟩, e2, hk _ _ ρ _ w _ e5 (hS1.put o.dst e3) (Agree.refl _ _) (by rw [St.put_nx, hnx]; exact Nat.le_refl _) e4⟩
    | false =>
      refine .inr ⟨rfl, ?_⟩
      unfold wpOpIn
      simp only [ho, hw, if_true]
      refine Oper.wpIn_mono (fun a' w' h' => ⟨same h'.1, h'.2⟩) (g2 hq ρ a w pins ro Q (K pins) hro hS1 hpn fun rds' st' ρ' a' w' hk' hS' hag hle hpn' => hk _ _ ρ' a' w' _ hk' hS' (by rw [← hnx]; exact hag) (by rw [← hnx]; exact hle) hpn')
  · have hS2 := hS1.put o.dst (s := .lit undef) (v := undef) (by simp only [SV.R])
    have hle : st.nx ≤ (st1.put o.dst (.lit undef)).nx := by rw [St.put_nx, hnx]; exact Nat.le_refl _
    cases hq : isQ o.op with
    | true =>
      refine .inl ⟨rfl, undef, [], .inr ⟨hw, rfl⟩, fun _ => rfl, hk _ _ ρ _ w _ hrun hS2 (Agree.refl _ _) hle fun k x hx => ?_⟩
      unfold upd at hx
      split at hx
      · cases hx
      · exact hpn k x hx
    | false =>
      refine .inr ⟨rfl, ?_⟩
      unfold wpOpIn
      simp only [ho, hw]
      exact ⟨fun _ _ => trivial, fun _ o' _ _ k _ x _ => rfl, hk _ _ ρ _ w _ hrun hS2 (Agree.refl _ _) hle hpn⟩

theorem opsOk_step {n : Nat} (h1 : GnOk P C O X n) (h2 : OpsOk P C O X n) : OpsOk P C O X (n + 1) := by
  intro rh dr ops rest i rds st k h ρ a w pins Q ro G hro hW hi hrest hS hpn hk
  cases rest with
  | nil =>
    simp only [runOps] at h
    have : i = ops.size := by
      have := congrArg List.length hrest
      simp at this
      omega
    subst this
    exact hW.done pins a w (hk st ρ a w h hS (Agree.refl _ _) (Nat.le_refl _))
  | cons o r =>
    have hlt : i < ops.size := by
      have := congrArg List.length hrest
      simp at this
      omega
    have ho : ops[i]? = some o := by
      have h3 : ops.toList[i]? = some o := by
        rw [← List.head?_drop, hrest]
        rfl
      simpa using h3
    have hr : ops.toList.drop (i + 1) = r := by
      rw [← List.tail_drop, hrest]
      rfl
    simp only [runOps] at h
    exact hW.step i pins a w hlt (h1 rh dr ops i o rds st _ h ρ a w pins Q ro (G (i + 1)) ho hro hS hpn fun rds1 st1 ρ1 a1 w1 pins1 hrun hS1 hag hle hpn1 =>
      h2 rh dr ops r (i + 1) rds1 st1 k hrun ρ1 a1 w1 pins1 Q ro G (hro.mono (Ext.of_agree hS.rep hag)) hW hlt hr hS1 hpn1 fun st' ρ' a' w' hk' hS' hag' hle' => hk st' ρ' a' w' hk' hS' (hag.trans hag' hle) (Nat.le_trans hle hle'))

def PlanOk (P : Program) (C : Cx) (O : ObsP) (X : Cfg) (n : Nat) : Prop := ∀ rh (ops : Array Oper) p rds st k, runPlan P O X n rh ops.toList p rds st k →
  ∀ ρ a w pins Q ro, RoOk ρ rh ro → Sim C ρ st a w → PinsOk ρ rds pins → (∀ st' ρ' a' w', k st' → Sim C ρ' st' a' w' → Agree ρ ρ' st.nx → st.nx ≤ st'.nx → Q .normal a' w') → planRun (StepP true ro P ops Q (fun j => (depT ops.toList []).getD j 0)) (Q .normal) p pins a w
theorem planOk_step {n : Nat} (h1 : GnOk P C O X n) (h2 : PlanOk P C O X n) : PlanOk P C O X (n + 1) := by
  intro rh ops p rds st k h ρ a w pins Q ro hro hS hpn hk
  have step : ∀ i o r, ops.toList[i]? = some o → runG P O X n rh true ops.toList i o rds st (fun rds s => runPlan P O X n rh ops.toList r rds s k) → StepP true ro P ops Q (fun j => (depT ops.toList []).getD j 0) i pins (planRun (StepP true ro P ops Q (fun j => (depT ops.toList []).getD j 0)) (Q .normal) r) a w := fun i o r ho hrun =>
    h1 rh true ops i o rds st _ hrun ρ a w pins Q ro _ (by simpa using ho) hro hS hpn fun rds1 st1 ρ1 a1 w1 pins1 hrun hS1 hag hle hpn1 =>
      h2 rh ops r rds1 st1 k hrun ρ1 a1 w1 pins1 Q ro (hro.mono (Ext.of_agree hS.rep hag)) hS1 hpn1 fun st' ρ' a' w' hk' hS' hag' hle' => hk st' ρ' a' w' hk' hS' (hag.trans hag' hle) (Nat.le_trans hle hle')
  unfold runPlan at h
  split at h
  · exact hk st ρ a w h hS (Agree.refl _ _) (Nat.le_refl _)
  · split at h
    · rename_i o ho
      exact step _ o _ ho h
    · cases h
  · split at h
    · rename_i o ho
      split at h
      · exact ⟨step _ o _ ho h, trivial⟩
      · exact ⟨step _ o _ ho h.l, h2 rh ops _ rds st k h.r ρ a w pins Q ro hro hS hpn hk⟩
    · cases h
  · trivial

theorem newOp_wr {H : Heap} {nx : Nat} {f : Operand → SV} {op : Op} {r : NR} (h : newOp P H nx f op = some r) : ∀ g ∈ r.wr, ∃ ob, hfind H g = some (true, ob) := by
  have nil : ∀ {l : List Nat}, l = [] → ∀ g ∈ l, ∃ ob, hfind H g = some (true, ob) := fun e g hg => by rw [e] at hg; cases hg
  unfold newOp at h
  split at h
  · unfold allocN at h
    repeat' split at h
    all_goals first | (cases h; done) | (cases h; exact nil rfl)
  · unfold boxN at h
    repeat' split at h
    all_goals first | (cases h; done) | (cases h; exact nil rfl)
  · unfold buildSliceN at h
    repeat' split at h
    all_goals first | (cases h; done) | (cases h; exact nil rfl)
  · unfold storeN at h
    split at h
    · split at h
      · rename_i ob hf
        split at h
        · split at h
          · cases h
            intro g hg
            rw [List.mem_singleton] at hg
            subst hg
            exact ⟨ob, hf⟩
          · cases h
        · cases h
      · cases h
    · cases h
  · split at h
    · split at h
      · split at h
        · unfold appendN at h
          split at h
          · split at h
            · split at h
              · split at h
                · split at h
                  · split at h
                    · cases h; exact nil rfl
                    · cases h; exact nil rfl
                    · rename_i hm
                      obtain ⟨_, _, _, _, ob, _, hf⟩ := modeOf_own hm
                      cases h
                      intro g hg
                      rw [List.mem_singleton] at hg
                      subst hg
                      exact ⟨ob, hf⟩
                    · cases h
                  · cases h
                · cases h
              · cases h
            · cases h
          · cases h
        · cases h
      · cases h
    · cases h
  · cases h

theorem okRds_spec {H : Heap} {t : Nat} {wr : List Nat} : ∀ {rds : List (Nat × Nat)}, okRds H t wr rds = true → ∀ k h, (k, h) ∈ rds → t.testBit k = false → ∃ x, hfind H h = some x ∧ has wr h = false
  | [], _, k, h, hm, _ => by cases hm
  | (k', h') :: r, hok, k, h, hm, ht => by
    simp only [okRds] at hok
    rcases List.mem_cons.1 hm with e | hm
    · cases e
      rw [ht] at hok
      simp only at hok
      split at hok
      · rename_i x h1 h2
        exact ⟨x, h1, h2⟩
      · cases hok
    · split at hok
      · exact okRds_spec hok k h hm ht
      · split at hok
        · exact okRds_spec hok k h hm ht
        · cases hok
theorem has_mem : ∀ {l : List Nat} {g : Nat}, g ∈ l → has l g = true
  | a :: r, g, h => by
    simp only [has]
    rcases List.mem_cons.1 h with e | h
    · subst e
      simp
    · split
      · rfl
      · exact has_mem h

theorem opOk_step {n : Nat} (h1 : CallOk P C O X n) (h2 : YieldOk P C O X n) : OpOk P C O X (n + 1) := by
  intro rh dr all i o rds st k h
  simp only [runOp] at h
  split at h
  · rename_i hq
    refine ⟨fun _ ρ a w pins hS hpn => ?_, fun hf => by rw [hq] at hf; cases hf⟩
    split at h
    · rename_i r hr
      obtain ⟨ha, hk⟩ := asts_ok h
      obtain ⟨v, hv, hrun⟩ := quietOp_ok (w := w) (ev_R hS.tm) hS.rep.obj hr ha
      refine ⟨r.v, v, (match r.rd with
        | some h => (match ρ h with
          | some (some p) => [p.a.block]
          | _ => [])
        | none => []), addR i r.rd rds, fun w' hw' => hrun w' fun h p hrd hp => ?_, fun hp => by rw [quietOp_pure hr hp], hv, fun k x hx => ?_, hk⟩
      · rw [hrd] at hw'
        simp only [hp] at hw'
        exact hw' _ (List.mem_singleton.2 rfl)
      · unfold upd at hx
        split at hx
        · rename_i e
          subst e
          split at hx
          · rename_i h hrd
            split at hx
            · rename_i p hp
              exact ⟨h, p, by rw [hrd]; exact List.mem_cons_self, hp, (List.mem_singleton.1 hx).symm⟩
            · cases hx
          · cases hx
        · obtain ⟨h, p, g1, g2, g3⟩ := hpn k x hx
          refine ⟨h, p, ?_, g2, g3⟩
          unfold addR
          split
          · exact List.mem_cons_of_mem _ g1
          · exact g1
    · cases h
  · rename_i hq
    refine ⟨fun hf => (by rw [hq] at hf; cases hf), fun _ ρ a w pins ro Q K hro hS hpn hk => ?_⟩
    split at h
    · rename_i r hr
      split at h
      · rename_i hokr
        obtain ⟨ha, hk'⟩ := asts_ok h
        obtain ⟨⟨v, w', ρ', ⟨g1, gd⟩, g2, g3, g4, g5, g6⟩, hnd⟩ := newOp_ok (ev_R hS.tm) hS.rep hr ha
        have hx := Ext.of_agree hS.rep g1
        have hS' := (hS.ext hx gd g3).put o.dst g4
        have hK := hk _ _ ρ' _ w' hk' hS' g1 (by rw [St.put_nx]; exact g2) (hpn.mono hx)
        have hleaves : dr = true → isNew o.op = true → ∀ k, ((depT all []).getD i 0).testBit k = false → ∀ x ∈ pins k, w'.heap[x]? = w.heap[x]? := fun hd _ k hb x hx => by
          obtain ⟨h, p, e1, e2, e3⟩ := hpn k x hx
          subst e3
          refine g6 _ (hS.rep.lt _ _ e2) fun g p' hg hp' => ?_
          subst hd
          unfold okR at hokr
          split at hokr
          · rename_i hd; cases hd
          · rename_i hwr; rw [hwr] at hg; cases hg
          · rename_i c wr' _ hwr
            obtain ⟨x, f1, f2⟩ := okRds_spec hokr k h e1 hb
            rw [hwr] at hg
            have hne : g ≠ h := fun e => by
              subst e
              rw [has_mem hg] at f2
              cases f2
            obtain ⟨ob, hf⟩ := newOp_wr hr g (by rw [hwr]; exact hg)
            exact hS.rep.sep g ob h x.1 x.2 p' p hne hf f1 hp' e2
        rcases g5 with g5 | ⟨g5, rfl⟩
        · exact wpIn_value hnd g5 ⟨hleaves, hK⟩
        · exact wpIn_skipped hnd g5 ⟨hleaves, hK⟩
      · cases h
    · split at h
      · rename_i c hop
        have hnd : ∀ c', o.op ≠ .defer c' := fun c' e => by rw [hop] at e; cases e
        split at h
        · rename_i f hcal
          have hno : isNew o.op = false := by rw [hop]; simp only [isNew, hcal]
          have hargs : SV.RL ρ (c.args.toList.map (ev st.tmps)) (c.args.map a.eval).toList := by
            rw [Array.toList_map]
            exact RL_map (ev_R hS.tm) c.args.toList
          have hf := ev_R hS.tm f
          have bad : ∀ {A : Prop}, isNew o.op = true → A := fun hn => by rw [hno] at hn; cases hn
          split at h
          · rename_i g x y hfe
            obtain ⟨hc, he⟩ := h1 _ _ _ _ _ h
            rw [hfe] at hf
            simp only [SV.R] at hf
            obtain ⟨xs, ys, hfv, hx, hy⟩ := hf
            have hrun : (execOp a.eval o).run P w = .ok (.enter g (xs ++ c.args.map a.eval ++ ys)) w := by
              unfold execOp
              simp only [hop, resolve, hcal, hfv, Deferred.ofValue, Sem.run_bind, Sem.run_pure, Result.andThen_ok, invoke]
              exact he _ w
            refine ⟨fun _ _ => trivial, ?_⟩
            rw [Oper.semAt_eq _ _ _ hnd, hrun, Oper.uponIn_enter]
            refine ⟨fun hd => by simp [FW, Fence.wide] at hd, hc ρ _ w _ ro ?_ hS.rep ?_⟩
            · simp only [Array.toList_append, List.append_assoc]
              exact RL_append hx (RL_append hargs hy)
            · intro s v H' nx' ρ' w' hk' hs hrep hag hd hle
              have hx := Ext.of_agree hS.rep hag
              exact ⟨fun _ hn => bad hn, hk _ _ ρ' _ w' hk' ((hS.ext hx hd hrep).put o.dst hs) hag (by rw [St.put_nx]; exact hle) (hpn.mono hx)⟩
          · rename_i hd hfe
            rw [hfe] at hf
            simp only [SV.R] at hf
            obtain ⟨p, hp, hfv⟩ := hf
            obtain ⟨p', fn, tmps, asg, bd, hp', hrn, hround⟩ := h2 _ _ _ _ _ h ρ (c.args.map a.eval) w (fun
              | .returned v, w'' => (dr = true → isNew o.op = true → ∀ k, ((depT all []).getD i 0).testBit k = false → ∀ x ∈ pins k, w''.heap[x]? = w.heap[x]?) ∧ K (a.put o.dst v) w''
              | .panicked chain, w'' => Q (.panic chain) a w''
              | .outgrown, _ => LetsOut Q) ro hargs hS.rep fun s v H' nx' ρ' w' hk' hs hrep hag hdd hle =>
                have hx := Ext.of_agree hS.rep hag
                ⟨fun _ hn => bad hn, hk _ _ ρ' _ w' hk' ((hS.ext hx hdd hrep).put o.dst hs) hag (by rw [St.put_nx]; exact hle) (hpn.mono hx)⟩
            rw [hp] at hp'
            cases hp'
            have hrun : (execOp a.eval o).run P w = .ok (.round p.a.block fn tmps asg bd) w := by
              unfold execOp
              simp only [hop, resolve, hcal, hfv, Deferred.ofValue, Sem.run_bind, Sem.run_pure, Result.andThen_ok, invoke]
              rw [Array.empty_append]
              exact hrn
            refine ⟨fun _ _ => trivial, ?_⟩
            rw [Oper.semAt_eq _ _ _ hnd, hrun, Oper.uponIn_round]
            exact ⟨fun hd => by simp [FW, Fence.wide] at hd, hround⟩
          · cases h
        · cases h
      · cases h
end
end Go.Sx
