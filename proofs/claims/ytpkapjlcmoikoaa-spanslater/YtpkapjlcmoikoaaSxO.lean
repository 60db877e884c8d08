import Derived.Test.YtpkapjlcmoikoaaSxN
import Derived.OrdersIn
import Derived.RangeFuncIn
import Derived.RangeFuncRecord
import Derived.LoopNIn
set_option linter.all false
/-
  The order of a region that draws.
-/
namespace Go.Sx
open Go

/-- every function, any depth; in a round, or in none -/
def FW (ro : Option Nat) : Fence := { Fence.wide with round := ro }
theorem FW_none : FW none = Fence.wide := rfl
theorem FW_inRound (ro : Option Nat) (l : Nat) : (FW ro).inRound l = FW (some l) := rfl
theorem FW_room (ro : Option Nat) (n : Nat) : (FW ro).room n := fun d h => by cases h

def isQo (o : Option Oper) : Bool := match o with
  | some o => isQ o.op
  | none => false
theorem isQ_noSelect {o : Oper} (h : isQ o.op = true) (cs : Array SelectCase) (b : Bool) : o.op ≠ .select cs b := fun e => by rw [e] at h; cases h
theorem isQ_noDefer {o : Oper} (h : isQ o.op = true) (c : Call) : o.op ≠ .defer c := fun e => by rw [e] at h; cases h

section
variable {P : Program} {ops : Array Oper} {Q : Exit → Act → World → Prop} {ro : Option Nat}

def YieldsW (P : Program) (ops : Array Oper) (o : Oper) (v : Value) (a : Act) (w : World) : Prop :=
  (Region.wanted o (yielded ops a.tmps) = true ∧ (execOp a.eval o).run P w = .ok (.value v) w) ∨ (Region.wanted o (yielded ops a.tmps) = false ∧ v = undef)

theorem YieldsW.of_put {oi oj : Oper} {u v : Value} {a : Act} {w : World} (hsj : isQ oj.op = true) (h : ∀ d, oi.dst = some d → d ∉ oj.looksAt ops) :
    YieldsW P ops oj u (a.put oi.dst v) w ↔ YieldsW P ops oj u a w := by
  unfold YieldsW
  rw [execOp_put oj (isQ_noSelect hsj) a oi.dst v h, wanted_put oj a oi.dst v h]

theorem wpIn_value {o : Oper} {a : Act} {w w' : World} {v : Value} {K : Act → World → Prop} (hd : ∀ c, o.op ≠ .defer c) (hr : (execOp a.eval o).run P w = .ok (.value v) w') (h : K (a.put o.dst v) w') : o.wpIn (FW ro) 0 P a w K Q := by
  refine ⟨fun _ _ => trivial, ?_⟩
  rw [Oper.semAt_eq _ _ _ hd, hr]
  exact h
theorem wpIn_skipped {o : Oper} {a : Act} {w w' : World} {K : Act → World → Prop} (hd : ∀ c, o.op ≠ .defer c) (hr : (execOp a.eval o).run P w = .ok .skip w') (h : K (a.put o.dst undef) w') : o.wpIn (FW ro) 0 P a w K Q := by
  refine ⟨fun _ _ => trivial, ?_⟩
  rw [Oper.semAt_eq _ _ _ hd, hr]
  exact h

theorem YieldsW.wpOpIn {i : Nat} {o : Oper} {v : Value} {a : Act} {w : World} {K : Act → World → Prop} (hi : ops[i]? = some o) (hq : isQ o.op = true) (hy : YieldsW P ops o v a w) (h : K (a.put o.dst v) w) :
    Go.wpOpIn (FW ro) 0 P ops Q i K a w := by
  unfold Go.wpOpIn
  simp only [hi]
  rcases hy with ⟨hw, hr⟩ | ⟨hw, rfl⟩
  · simp only [hw, if_true]
    exact wpIn_value (isQ_noDefer hq) hr h
  · simp only [hw]
    exact ⟨fun _ _ => trivial, h⟩

/-- In whatever world in which these blocks are as they are here, the operation yields v and turns nothing. -/
def YieldsB (P : Program) (ops : Array Oper) (o : Oper) (v : Value) (a : Act) (w : World) (b : List Nat) : Prop :=
  (Region.wanted o (yielded ops a.tmps) = true ∧ ∀ w', (∀ x ∈ b, w'.heap[x]? = w.heap[x]?) → (execOp a.eval o).run P w' = .ok (.value v) w') ∨ (Region.wanted o (yielded ops a.tmps) = false ∧ v = undef)
theorem YieldsB.here {o : Oper} {v : Value} {a : Act} {w : World} {b : List Nat} (h : YieldsB P ops o v a w b) : YieldsW P ops o v a w := by
  rcases h with ⟨h1, h2⟩ | h
  · exact .inl ⟨h1, h2 w fun _ _ => rfl⟩
  · exact .inr h
theorem YieldsB.on {o : Oper} {v : Value} {a : Act} {w w' : World} {b : List Nat} (h : YieldsB P ops o v a w b) (hw : ∀ x ∈ b, w'.heap[x]? = w.heap[x]?) : YieldsB P ops o v a w' b := by
  rcases h with ⟨h1, h2⟩ | h
  · exact .inl ⟨h1, fun w2 h3 => h2 w2 fun x hx => (h3 x hx).trans (hw x hx)⟩
  · exact .inr h
theorem YieldsB.of_put {oi oj : Oper} {u v : Value} {a : Act} {w : World} {b : List Nat} (hsj : isQ oj.op = true) (h : ∀ d, oi.dst = some d → d ∉ oj.looksAt ops) :
    YieldsB P ops oj u (a.put oi.dst v) w b ↔ YieldsB P ops oj u a w b := by
  unfold YieldsB
  rw [execOp_put oj (isQ_noSelect hsj) a oi.dst v h, wanted_put oj a oi.dst v h]

def upd (pins : Nat → List Nat) (i : Nat) (b : List Nat) : Nat → List Nat := fun k => if k = i then b else pins k
theorem upd_comm (pins : Nat → List Nat) {i j : Nat} (h : i ≠ j) (b c : List Nat) : upd (upd pins i b) j c = upd (upd pins j c) i b := by
  funext k
  unfold upd
  by_cases h1 : k = j <;> by_cases h2 : k = i <;> simp_all
/-- it leaves what those have read that it does not wait for -/
def Leaves1 (T : Nat → Nat) (ops : Array Oper) (i : Nat) (pins : Nat → List Nat) (w w' : World) : Prop :=
  ∀ o, ops[i]? = some o → isNew o.op = true → ∀ k, (T i).testBit k = false → ∀ x ∈ pins k, w'.heap[x]? = w.heap[x]?

/-- from here on, whatever comes up; what is quiet yields, and turns nothing -/
def anyS (ro : Option Nat) (P : Program) (ops : Array Oper) (Q : Exit → Act → World → Prop) (T : Nat → Nat) : Nat → Array Bool → (Nat → List Nat) → Act → World → Prop
  | 0, listed, _, a, w => Region.ready .any ops listed = [] ∧ Q .normal a w
  | fuel + 1, listed, pins, a, w =>
    (Region.ready .any ops listed = [] → Q .normal a w) ∧
    ∀ i ∈ Region.ready .any ops listed, if isQo ops[i]? = true then ∃ o v b, ops[i]? = some o ∧ YieldsB P ops o v a w b ∧ (isPure o.op = true → b = []) ∧ anyS ro P ops Q T fuel (listed.setIfInBounds i true) (upd pins i b) (a.put o.dst v) w
      else wpOpIn (FW ro) 0 P ops Q i (fun a' w' => Leaves1 T ops i pins w w' ∧ anyS ro P ops Q T fuel (listed.setIfInBounds i true) pins a' w') a w

theorem anyS_sound {T : Nat → Nat} : ∀ (fuel : Nat) (listed : Array Bool) (pins : Nat → List Nat) (a : Act) (w : World), anyS ro P ops Q T fuel listed pins a w → wpAnyIn (FW ro) 0 P .any ops Q fuel listed a w
  | 0, _, _, _, _, h => h
  | fuel + 1, listed, pins, a, w, h => ⟨h.1, fun i hi => by
    have h2 := h.2 i hi
    split at h2
    · rename_i hq
      obtain ⟨o, v, b, ho, hy, _, hn⟩ := h2
      rw [ho] at hq
      exact hy.here.wpOpIn ho hq (anyS_sound fuel _ _ _ _ hn)
    · exact wpOpIn_mono (fun a' w' h' => anyS_sound fuel _ _ _ _ h'.2) h2⟩

theorem noSel_select {o : Oper} (h : noSel o.op = true) (cs : Array SelectCase) (b : Bool) : o.op ≠ .select cs b := fun e => by rw [e] at h; cases h
theorem noSel_defer {o : Oper} (h : noSel o.op = true) (c : Call) : o.op ≠ .defer c := fun e => by rw [e] at h; cases h

/-- one operation comes up ahead of another, that yields the same -/
theorem YieldsB.behind {j : Nat} {oi oj : Oper} {v : Value} {w0 : World} {b : List Nat} (hj : ops[j]? = some oj) (hap : oi.apart ops oj = true) (hqi : isQ oi.op = true) (hnj : noSel oj.op = true)
    (hQ : ∀ c a w, ¬ Q (.panic c) a w) {K : Act → World → Prop} {a : Act} {w : World} (hy : YieldsB P ops oi v a w0 b) (h : wpOpIn (FW ro) 0 P ops Q j K (a.put oi.dst v) w) :
    wpOpIn (FW ro) 0 P ops Q j (fun a' w' => YieldsB P ops oi v a' w0 b ∧ K (a'.put oi.dst v) w') a w := by
  obtain ⟨h1, h2, h3⟩ := Oper.apart_spec hap
  have keep : ∀ (a : Act), YieldsB P ops oi v a w0 b → ∀ u, YieldsB P ops oi v (a.put oj.dst u) w0 b := fun a hy u => (YieldsB.of_put hqi h3).2 hy
  unfold wpOpIn at h ⊢
  simp only [hj] at h ⊢
  rw [wanted_put oj a oi.dst v h1] at h
  split
  · rename_i hw
    simp only [hw, if_true] at h
    refine ⟨fun _ _ => trivial, ?_⟩
    have h := h.2
    rw [Oper.semAt_eq _ _ _ (noSel_defer hnj)] at h ⊢
    rw [execOp_put oj (noSel_select hnj) a oi.dst v h1] at h
    generalize (execOp a.eval oj).run P w = r at h
    cases r with
    | ok n w' =>
      cases n <;> simp only [Oper.uponIn] at h ⊢
      case value u => exact ⟨keep a hy u, by rw [← Act.put_comm a v u h2]; exact h⟩
      case skip => exact ⟨keep a hy _, by rw [← Act.put_comm a v undef h2]; exact h⟩
      case defer d =>
        refine ⟨(YieldsB.of_put (a := { a with defers := d :: a.defers }) hqi h3).2 hy, ?_⟩
        rw [← Act.put_comm _ v undef h2, ← Act.put_defers]
        exact h
      case enter f args =>
        refine ⟨h.1, CallsIn.mono h.2 fun e w'' he => ?_⟩
        cases e with
        | returned u => exact ⟨keep a hy u, by rw [← Act.put_comm a v u h2]; exact he⟩
        | panicked c => exact absurd he (hQ _ _ _)
        | outgrown => exact he
      case row row args => exact ⟨h.1, RowsIn.mono h.2 fun u w'' he => ⟨keep a hy u, by rw [← Act.put_comm a v u h2]; exact he⟩⟩
      case round l f tmps asg bd =>
        refine ⟨h.1, RoundIn.mono h.2 fun e w'' he => ?_⟩
        cases e with
        | returned u => exact ⟨keep a hy u, by rw [← Act.put_comm a v u h2]; exact he⟩
        | panicked c => exact absurd he (hQ _ _ _)
        | outgrown => exact he
    | halt x w' =>
      cases x <;> simp only [Oper.uponIn] at h ⊢
      case panic u => exact absurd h (hQ _ _ _)
  · rename_i hw
    simp only [hw] at h
    exact ⟨fun _ _ => trivial, keep a hy _, by rw [← Act.put_comm a v undef h2]; exact h.2⟩

/-- what is listed has what it waits for listed -/
def Closed (ops : Array Oper) (listed : Array Bool) : Prop := ∀ k o, ops[k]? = some o → listed.getD k false = true → ∀ e ∈ o.after, Region.binds .any e = true → listed.getD e.on false = true
/-- 'T j' has the numbers of those that are listed when j may be -/
def DepsOk (ops : Array Oper) (T : Nat → Nat) : Prop := ∀ listed, Closed ops listed → ∀ j o, ops[j]? = some o → (∀ e ∈ o.after, Region.binds .any e = true → listed.getD e.on false = true) → ∀ k, (T j).testBit k = true → listed.getD k false = true

theorem Closed.set {listed : Array Bool} (hc : Closed ops listed) {j : Nat} (hj : j ∈ Region.ready .any ops listed) : Closed ops (listed.setIfInBounds j true) := by
  intro k o ho hk e he hb
  obtain ⟨_, oj, hoj, hall⟩ := mem_ready.1 hj
  by_cases hkj : k = j
  · subst hkj
    rw [ho] at hoj
    cases hoj
    exact getD_set_true (hall e he hb)
  · rw [getD_set_ne false (Ne.symm hkj)] at hk
    exact getD_set_true (hc k o ho hk e he hb)

theorem mayAhead_spec {oi o : Op} (h : mayAhead oi o = true) : isQ o = true ∨ (isQ o = false ∧ noSel o = true ∧ (isPure oi = true ∨ isNew o = true)) := by
  unfold mayAhead at h
  split at h
  · rename_i h1; exact .inl h1
  · rename_i h1
    split at h
    · rename_i h2 h3; exact .inr ⟨h1, h2, .inl h3⟩
    · rename_i h2 h3 _; exact .inr ⟨h1, h2, .inr h3⟩
    · cases h

theorem anyS_first {T : Nat → Nat} (hT : DepsOk ops T) (hQ : ∀ c a w, ¬ Q (.panic c) a w) {i : Nat} {oi : Oper} {v : Value} (hi : ops[i]? = some oi) (hq : isQ oi.op = true) {b : List Nat} (hp : isPure oi.op = true → b = []) :
    ∀ (fuel : Nat) (listed : Array Bool) (pins : Nat → List Nat) (a : Act) (w : World), Closed ops listed → i ∈ Region.ready .any ops listed → YieldsB P ops oi v a w b →
      (∀ j oj, ops[j]? = some oj → j ≠ i → listed.getD j true = false → (T j).testBit i = false → oi.apart ops oj = true ∧ mayAhead oi.op oj.op = true) →
      (∀ j, pins j ≠ [] → j ≠ i) →
      anyS ro P ops Q T fuel (listed.setIfInBounds i true) (upd pins i b) (a.put oi.dst v) w → anyS ro P ops Q T (fuel + 1) listed pins a w := by
  have isq : isQo ops[i]? = true := by rw [hi]; exact hq
  intro fuel
  induction fuel with
  | zero =>
    intro listed pins a w hc hr hy hfree hpn H
    refine ⟨fun h => (by rw [h] at hr; cases hr), fun j hj => ?_⟩
    by_cases hji : j = i
    · subst hji
      rw [if_pos isq]
      exact ⟨oi, v, b, hi, hy, hp, H⟩
    · have := ready_mono hj hji
      rw [H.1] at this
      cases this
  | succ fuel ih =>
    intro listed pins a w hc hr hy hfree hpn H
    refine ⟨fun h => (by rw [h] at hr; cases hr), fun j hj => ?_⟩
    by_cases hji : j = i
    · subst hji
      rw [if_pos isq]
      exact ⟨oi, v, b, hi, hy, hp, H⟩
    · obtain ⟨hjun, oj, hoj, hall⟩ := mem_ready.1 hj
      have hbit : (T j).testBit i = false := by
        cases hb : (T j).testBit i with
        | false => rfl
        | true =>
          have h1 := hT listed hc j oj hoj hall i hb
          have h2 := (mem_ready.1 hr).1
          rw [Array.getD_eq_getD_getElem?] at h1 h2
          cases hx : listed[i]? with
          | none => rw [hx] at h1; simp at h1
          | some x => rw [hx] at h1 h2; simp at h1 h2; rw [h1] at h2; cases h2
      obtain ⟨hap, hor⟩ := hfree j oj hoj hji hjun hbit
      obtain ⟨p1, p2, p3⟩ := Oper.apart_spec hap
      have h1 := H.2 j (ready_mono hj hji)
      have hfree' : ∀ k ok, ops[k]? = some ok → k ≠ i → (listed.setIfInBounds j true).getD k true = false → (T k).testBit i = false → oi.apart ops ok = true ∧ mayAhead oi.op ok.op = true := fun k ok hk hki hun hb => by
        refine hfree k ok hk hki ?_ hb
        by_cases hjk : j = k
        · subst hjk; exact hjun
        · rw [getD_set_ne true hjk] at hun; exact hun
      rcases mayAhead_spec hor with hqj | ⟨hqj, hns, hpn'⟩
      · have isqj : isQo ops[j]? = true := by rw [hoj]; exact hqj
        rw [if_pos isqj] at h1 ⊢
        obtain ⟨oj', u, c, hoj', hyj, hpj, hn⟩ := h1
        rw [hoj] at hoj'
        cases hoj'
        refine ⟨oj, u, c, hoj, (YieldsB.of_put hqj p1).1 hyj, hpj, ih _ _ _ _ (hc.set hj) (ready_mono hr (Ne.symm hji)) ((YieldsB.of_put hq p3).2 hy) hfree' (fun k hk => ?_) ?_⟩
        · unfold upd at hk
          split at hk
          · rename_i e; rw [e]; exact hji
          · exact hpn k hk
        · rw [← Act.put_comm a v u p2, Array.setIfInBounds_comm _ _ hji, upd_comm pins hji c b]
          exact hn
      · have isqj : isQo ops[j]? = false := by rw [hoj]; exact hqj
        rw [if_neg (by rw [isqj]; simp)] at h1 ⊢
        refine wpOpIn_mono (fun a' w' h' => ?_) (hy.behind hoj hap hq hns hQ h1)
        obtain ⟨hy', hl, hn⟩ := h'
        refine ⟨fun o ho hnew k hk x hx => hl o ho hnew k hk x ?_, ih _ _ _ _ (hc.set hj) (ready_mono hr (Ne.symm hji)) (hy'.on fun x hx => ?_) hfree' hpn ?_⟩
        · have : k ≠ i := hpn k fun e => by rw [e] at hx; cases hx
          simp only [upd, if_neg this]
          exact hx
        · rcases hpn' with h2 | h2
          · rw [hp h2] at hx; cases hx
          · exact hl oj hoj h2 i hbit x (by simp only [upd, if_pos]; exact hx)
        · rw [Array.setIfInBounds_comm _ _ hji]
          exact hn

theorem depE_bit {tbl : List Nat} {k : Nat} : ∀ (l : List Edge) (m : Nat), (depE tbl m l).testBit k = true → m.testBit k = true ∨ ∃ e ∈ l, Region.binds .any e = true ∧ (k = e.on ∨ (tbl.getD e.on 0).testBit k = true)
  | [], m, h => .inl h
  | e :: r, m, h => by
    simp only [depE] at h
    split at h
    · rename_i hb
      rcases depE_bit r _ h with h1 | ⟨e', he', h2⟩
      · rw [Nat.testBit_or, Nat.testBit_or, Bool.or_eq_true, Bool.or_eq_true] at h1
        rcases h1 with (h1 | h1) | h1
        · exact .inl h1
        · refine .inr ⟨e, List.mem_cons_self, hb, .inl ?_⟩
          rw [Nat.one_shiftLeft, Nat.testBit_two_pow] at h1
          exact (of_decide_eq_true h1).symm
        · exact .inr ⟨e, List.mem_cons_self, hb, .inr h1⟩
      · exact .inr ⟨e', List.mem_cons_of_mem _ he', h2⟩
    · rcases depE_bit r _ h with h1 | ⟨e', he', h2⟩
      · exact .inl h1
      · exact .inr ⟨e', List.mem_cons_of_mem _ he', h2⟩

theorem depT_ok : ∀ (r pre : List Oper) (tbl : List Nat), tbl.length = pre.length → DepsOk (pre ++ r).toArray (fun j => tbl.getD j 0) → DepsOk (pre ++ r).toArray (fun j => (depT r tbl).getD j 0)
  | [], pre, tbl, _, h => h
  | o :: r, pre, tbl, hl, h => by
    have hl' : (tbl ++ [depE tbl 0 o.after.toList]).length = (pre ++ [o]).length := by simp [hl]
    have := depT_ok r (pre ++ [o]) (tbl ++ [depE tbl 0 o.after.toList]) hl'
    rw [List.append_assoc, List.singleton_append] at this
    refine this fun listed hc j oj hoj hall k hk => ?_
    rcases Nat.lt_trichotomy j tbl.length with hj | hj | hj
    · simp only [List.getD_eq_getElem?_getD, List.getElem?_append_left hj] at hk
      exact h listed hc j oj hoj hall k (by simpa [List.getD_eq_getElem?_getD] using hk)
    · subst hj
      simp only [List.getD_eq_getElem?_getD, List.getElem?_append_right (Nat.le_refl _), Nat.sub_self, List.getElem?_cons_zero, Option.getD_some] at hk
      have hoj' : oj = o := by
        rw [hl] at hoj
        simpa using hoj.symm
      subst hoj'
      rcases depE_bit _ _ hk with h0 | ⟨e, he, hb, h1⟩
      · simp at h0
      · have hlist := hall e (by simpa using he) hb
        rcases h1 with rfl | h1
        · exact hlist
        · cases hoe : (pre ++ oj :: r).toArray[e.on]? with
          | none =>
            rcases Nat.lt_or_ge e.on tbl.length with hlt | hge
            · rw [List.getElem?_toArray, List.getElem?_eq_none_iff] at hoe
              simp at hoe
              omega
            · rw [List.getD_eq_getElem?_getD, List.getElem?_eq_none hge] at h1
              simp at h1
          | some oe => exact h listed hc e.on oe hoe (hc e.on oe hoe hlist) k h1
    · simp only [List.getD_eq_getElem?_getD] at hk
      rw [List.getElem?_eq_none (by simp; omega)] at hk
      simp at hk

/-! ### plans -/
def maskA (m n : Nat) : Array Bool := Array.ofFn (n := n) fun j => m.testBit j.1
theorem maskA_getD (m n j : Nat) (d : Bool) : (maskA m n).getD j d = if j < n then m.testBit j else d := by
  rw [Array.getD_eq_getD_getElem?]
  unfold maskA
  rw [Array.getElem?_ofFn]
  split <;> simp
theorem maskA_set {m n i : Nat} : (maskA m n).setIfInBounds i true = maskA (m ||| (1 <<< i)) n := by
  apply Array.ext_getElem?
  intro j
  rw [Array.getElem?_setIfInBounds]
  unfold maskA
  have hb : ∀ j, (m ||| (1 <<< i)).testBit j = (m.testBit j || decide (i = j)) := fun j => by
    rw [Nat.testBit_or, Nat.one_shiftLeft, Nat.testBit_two_pow]
  by_cases e : i = j
  · subst e
    rw [if_pos rfl, Array.getElem?_ofFn]
    simp only [Array.size_ofFn, hb]
    split <;> simp
  · rw [if_neg e, Array.getElem?_ofFn, Array.getElem?_ofFn]
    simp only [hb, e, decide_false, Bool.or_false]
theorem maskA_zero (n : Nat) : maskA 0 n = Array.replicate n false := by
  apply Array.ext
  · simp [maskA]
  · intro j h1 h2; simp [maskA]

theorem readyM_true {m : Nat} : ∀ {l : List Edge}, readyM m l = true → ∀ e ∈ l, Region.binds .any e = true → m.testBit e.on = true
  | [], _, e, he, _ => by cases he
  | x :: r, h, e, he, hb => by
    simp only [readyM] at h
    split at h
    · cases h
    · rename_i hn
      rcases List.mem_cons.1 he with rfl | he
      · cases ht : m.testBit e.on with
        | true => rfl
        | false => exact (hn hb ht).elim
      · exact readyM_true h e he hb
theorem readyM_of {m : Nat} : ∀ {l : List Edge}, (∀ e ∈ l, Region.binds .any e = true → m.testBit e.on = true) → readyM m l = true
  | [], _ => rfl
  | x :: r, h => by
    simp only [readyM]
    split
    · rename_i h1 h2
      have := h x List.mem_cons_self h1
      rw [h2] at this
      cases this
    · exact readyM_of fun e he => h e (List.mem_cons_of_mem _ he)
theorem upM_mem {m : Nat} : ∀ {l : List Oper} {i q : Nat} {o : Oper}, l[q]? = some o → m.testBit (i + q) = false → readyM m o.after.toList = true → i + q ∈ upM m l i
  | [], _, _, _, h, _, _ => by simp at h
  | x :: r, i, q, o, h, hm, hr => by
    cases q with
    | zero =>
      simp at h
      subst h
      simp only [upM, Nat.add_zero] at hm ⊢
      rw [hm, hr]
      exact List.mem_cons_self
    | succ q =>
      have := upM_mem (l := r) (i := i + 1) (q := q) (by simpa using h) (by rw [show i + 1 + q = i + (q + 1) by omega]; exact hm) hr
      rw [show i + 1 + q = i + (q + 1) by omega] at this
      simp only [upM]
      split
      · exact List.mem_cons_of_mem _ this
      · exact this
theorem freeM_true {ops : Array Oper} {oi : Oper} {i m : Nat} : ∀ {r : List Oper} {ts : List Nat} {j : Nat}, freeM ops oi i m r ts j = true → ∀ q oj, r[q]? = some oj → (ts.getD q 0).testBit i = false → m.testBit (j + q) = false → j + q ≠ i →
    oi.apart ops oj = true ∧ mayAhead oi.op oj.op = true
  | [], _, _, _, q, oj, h, _, _, _ => by simp at h
  | o :: r, [], _, h, _, _, _, _, _, _ => by simp [freeM] at h
  | o :: r, t :: ts, j, h, q, oj, hq, hb, hm, hne => by
    cases q with
    | zero =>
      simp at hq hb
      subst hq
      have hij : Nat.beq i j = false := by rw [nbeq]; exact decide_eq_false (fun e => hne (by omega))
      rw [Nat.add_zero] at hm
      simp only [freeM, hb, hm, hij] at h
      split at h
      · rename_i h1 h2; exact ⟨h1, h2⟩
      · cases h
    | succ q =>
      have hq' : r[q]? = some oj := by simpa using hq
      have hb' : (ts.getD q 0).testBit i = false := by simpa using hb
      have hm' : m.testBit (j + 1 + q) = false := by rw [show j + 1 + q = j + (q + 1) by omega]; exact hm
      have hne' : j + 1 + q ≠ i := by omega
      simp only [freeM] at h
      split at h
      · exact freeM_true h q oj hq' hb' hm' hne'
      · exact freeM_true h q oj hq' hb' hm' hne'
      · exact freeM_true h q oj hq' hb' hm' hne'
      · split at h
        · exact freeM_true h q oj hq' hb' hm' hne'
        · cases h

theorem isPure_isQ {o : Op} (h : isPure o = true) : isQ o = true := by
  unfold isPure at h
  split at h
  · cases h
  · exact h

theorem mem_upM {m : Nat} {j : Nat} (hj : j ∈ Region.ready .any ops (maskA m ops.size)) : j ∈ upM m ops.toList 0 := by
  obtain ⟨hun, o, ho, hall⟩ := mem_ready.1 hj
  have hjl : j < ops.size := (Array.getElem?_eq_some_iff.1 ho).1
  rw [maskA_getD, if_pos hjl] at hun
  have := upM_mem (m := m) (l := ops.toList) (i := 0) (q := j) (o := o) (by simpa using ho) (by rw [Nat.zero_add]; exact hun) (readyM_of fun e he hb => by
    have h1 := hall e (by simpa using he) hb
    rw [maskA_getD] at h1
    split at h1
    · exact h1
    · cases h1)
  rwa [Nat.zero_add] at this
end

/-- how a plan is walked: 'Step i pins K': the operation i, then K -/
def planRun (Step : Nat → (Nat → List Nat) → ((Nat → List Nat) → Act → World → Prop) → Act → World → Prop) (Fin : Act → World → Prop) : Plan → (Nat → List Nat) → Act → World → Prop
  | .done, _, a, w => Fin a w
  | .take i r, pins, a, w => Step i pins (planRun Step Fin r) a w
  | .alt i p q, pins, a, w => Step i pins (planRun Step Fin p) a w ∧ planRun Step Fin q pins a w
  | .stop, _, _, _ => True

section
variable {P : Program} {ops : Array Oper} {Q : Exit → Act → World → Prop} {ro : Option Nat}
/-- an operation: quiet, and yielding; or any other -/
def StepP (dr : Bool) (ro : Option Nat) (P : Program) (ops : Array Oper) (Q : Exit → Act → World → Prop) (T : Nat → Nat) (i : Nat) (pins : Nat → List Nat) (K : (Nat → List Nat) → Act → World → Prop) (a : Act) (w : World) : Prop :=
  ∃ o, ops[i]? = some o ∧ ((isQ o.op = true ∧ ∃ v b, YieldsB P ops o v a w b ∧ (isPure o.op = true → b = []) ∧ K (upd pins i b) (a.put o.dst v) w) ∨ (isQ o.op = false ∧ wpOpIn (FW ro) 0 P ops Q i (fun a' w' => (dr = true → Leaves1 T ops i pins w w') ∧ K pins a' w') a w))

theorem plan_sound (hQ : ∀ c a w, ¬ Q (.panic c) a w) : ∀ (p : Plan) (head : Bool) (k m : Nat) (pins : Nat → List Nat) (a : Act) (w : World), planOk ops (depT ops.toList []) p head k m = true → Closed ops (maskA m ops.size) → (∀ j, m.testBit j = true → j < ops.size) → (∀ j, pins j ≠ [] → m.testBit j = true) →
    planRun (StepP true ro P ops Q (fun j => (depT ops.toList []).getD j 0)) (Q .normal) p pins a w →
    (head = true → anyS ro P ops Q (fun j => (depT ops.toList []).getD j 0) k (maskA m ops.size) pins a w) ∧
    (head = false → ∀ j k', k = k' + 1 → j ∈ Region.ready .any ops (maskA m ops.size) → chainHas p j = true →
      if isQo ops[j]? = true then ∃ o v b, ops[j]? = some o ∧ YieldsB P ops o v a w b ∧ (isPure o.op = true → b = []) ∧ anyS ro P ops Q (fun j => (depT ops.toList []).getD j 0) k' ((maskA m ops.size).setIfInBounds j true) (upd pins j b) (a.put o.dst v) w
      else wpOpIn (FW ro) 0 P ops Q j (fun a' w' => Leaves1 (fun j => (depT ops.toList []).getD j 0) ops j pins w w' ∧ anyS ro P ops Q (fun j => (depT ops.toList []).getD j 0) k' ((maskA m ops.size).setIfInBounds j true) pins a' w') a w) := by
  have hT : DepsOk ops (fun j => (depT ops.toList []).getD j 0) := by
    have := depT_ok (ops.toList) [] [] rfl (fun listed hc j o _ _ k hk => by simp at hk)
    simpa using this
  have rdy : ∀ {i m : Nat} {o : Oper}, ops[i]? = some o → m.testBit i = false → readyM m o.after.toList = true → (∀ j, m.testBit j = true → j < ops.size) → i ∈ Region.ready .any ops (maskA m ops.size) := fun {i m o} ho hm hr hlt => by
    have hil : i < ops.size := (Array.getElem?_eq_some_iff.1 ho).1
    refine mem_ready.2 ⟨by rw [maskA_getD, if_pos hil]; exact hm, o, ho, fun e he hb => ?_⟩
    have := readyM_true hr e (by simpa using he) hb
    rw [maskA_getD, if_pos (hlt _ this)]
    exact this
  have orb : ∀ (i m j : Nat), (m ||| (1 <<< i)).testBit j = (m.testBit j || decide (i = j)) := fun i m j => by
    rw [Nat.testBit_or, Nat.one_shiftLeft, Nat.testBit_two_pow]
  have bits : ∀ {i m : Nat} {o : Oper}, ops[i]? = some o → (∀ j, m.testBit j = true → j < ops.size) → ∀ j, (m ||| (1 <<< i)).testBit j = true → j < ops.size := fun {i m o} ho hm j hj => by
    rw [orb, Bool.or_eq_true] at hj
    rcases hj with hj | hj
    · exact hm j hj
    · have := of_decide_eq_true hj
      subst this
      exact (Array.getElem?_eq_some_iff.1 ho).1
  have pinb : ∀ {i m : Nat} {pins : Nat → List Nat} {b : List Nat}, (∀ j, pins j ≠ [] → m.testBit j = true) → ∀ j, upd pins i b j ≠ [] → (m ||| (1 <<< i)).testBit j = true := fun {i m pins b} h j hj => by
    rw [orb, Bool.or_eq_true]
    unfold upd at hj
    split at hj
    · rename_i e; exact .inr (decide_eq_true e.symm)
    · exact .inl (h j hj)
  intro p
  induction p with
  | done =>
    intro head k m pins a w hp hc hb hpn hr
    cases head with
    | false => simp [planOk] at hp
    | true =>
      refine ⟨fun _ => ?_, fun h => by cases h⟩
      have hup : upM m ops.toList 0 = [] := by
        simp only [planOk] at hp
        split at hp
        · assumption
        · cases hp
      have hno : Region.ready .any ops (maskA m ops.size) = [] := by
        cases hrd : Region.ready .any ops (maskA m ops.size) with
        | nil => rfl
        | cons j r =>
          have hj : j ∈ Region.ready .any ops (maskA m ops.size) := by rw [hrd]; exact List.mem_cons_self
          have := mem_upM hj
          rw [hup] at this
          cases this
      cases k with
      | zero => exact ⟨hno, hr⟩
      | succ k => exact ⟨fun _ => hr, fun i hi => by rw [hno] at hi; cases hi⟩
  | take i r ih =>
    intro head k m pins a w hp hc hb hpn hr
    simp only [planOk] at hp
    split at hp
    · rename_i k o ho
      refine ⟨fun _ => ?_, fun h => by cases h⟩
      split at hp
      · rename_i h1 h2 h3 h4
        obtain ⟨o', ho', hor⟩ := hr
        rw [ho] at ho'
        cases ho'
        rcases hor with ⟨_, v, b, hy, hpure, hK⟩ | ⟨hf, _⟩
        · have hrd := rdy ho h1 h3 hb
          refine anyS_first hT hQ ho h2 hpure _ _ _ _ _ hc hrd hy (fun j oj hoj hne hun hbit => ?_) (fun j hj e => ?_) ?_
          · have hjl : j < ops.size := (Array.getElem?_eq_some_iff.1 hoj).1
            rw [maskA_getD, if_pos hjl] at hun
            exact freeM_true h4 j oj (by simpa using hoj) (by simpa using hbit) (by rw [Nat.zero_add]; exact hun) (by omega)
          · have := hpn j hj
            rw [e, h1] at this
            cases this
          · rw [maskA_set]
            exact (ih true k _ _ _ w hp (by rw [← maskA_set]; exact hc.set hrd) (bits ho hb) (pinb hpn) hK).1 rfl
        · rw [h2] at hf; cases hf
      · cases hp
    · cases hp
  | alt i p q ihp ihq =>
    intro head k m pins a w hp hc hb hpn hr
    simp only [planOk] at hp
    split at hp
    · rename_i k o hall ho
      split at hp
      · rename_i h1 h2 h3
        have hrd := rdy ho h1 h2 hb
        have chain : ∀ j, j ∈ Region.ready .any ops (maskA m ops.size) → chainHas (.alt i p q) j = true →
            if isQo ops[j]? = true then ∃ o v b, ops[j]? = some o ∧ YieldsB P ops o v a w b ∧ (isPure o.op = true → b = []) ∧ anyS ro P ops Q (fun j => (depT ops.toList []).getD j 0) k ((maskA m ops.size).setIfInBounds j true) (upd pins j b) (a.put o.dst v) w
            else wpOpIn (FW ro) 0 P ops Q j (fun a' w' => Leaves1 (fun j => (depT ops.toList []).getD j 0) ops j pins w w' ∧ anyS ro P ops Q (fun j => (depT ops.toList []).getD j 0) k ((maskA m ops.size).setIfInBounds j true) pins a' w') a w := fun j hj hch => by
          simp only [chainHas] at hch
          split at hch
          · rename_i e
            have e := Nat.eq_of_beq_eq_true e
            subst e
            have next : ∀ pins' a' w', (∀ j, pins' j ≠ [] → (m ||| (1 <<< i)).testBit j = true) → planRun (StepP true ro P ops Q (fun j => (depT ops.toList []).getD j 0)) (Q .normal) p pins' a' w' → anyS ro P ops Q (fun j => (depT ops.toList []).getD j 0) k ((maskA m ops.size).setIfInBounds i true) pins' a' w' := fun pins' a' w' hpn' h' => by
              rw [maskA_set]
              exact (ihp true k _ pins' a' w' h3 (by rw [← maskA_set]; exact hc.set hrd) (bits ho hb) hpn' h').1 rfl
            obtain ⟨o', ho', hor⟩ := hr.1
            rw [ho] at ho'
            cases ho'
            rcases hor with ⟨hq, v, b, hy, hpure, hK⟩ | ⟨hf, hwp⟩
            · rw [if_pos (by rw [ho]; exact hq)]
              exact ⟨o, v, b, ho, hy, hpure, next _ _ _ (pinb hpn) hK⟩
            · rw [if_neg (by rw [ho]; simp [isQo, hf])]
              exact wpOpIn_mono (fun a' w' h' => ⟨h'.1 rfl, next _ _ _ (fun j hj => by rw [orb, hpn j hj]; rfl) h'.2⟩) hwp
          · exact (ihq false (k + 1) m pins a w hp hc hb hpn hr.2).2 rfl j k rfl hj hch
        refine ⟨fun hh => ?_, fun hh j k' hk' => ?_⟩
        · subst hh
          simp only at hall
          refine ⟨fun h0 => (by rw [h0] at hrd; cases hrd), fun j hj => chain j hj ?_⟩
          exact List.all_eq_true.1 hall j (mem_upM hj)
        · cases hk'
          exact chain j
      · cases hp
    · cases hp
  | stop =>
    intro head k m pins a w hp hc hb hpn hr
    cases head with
    | true => simp [planOk] at hp
    | false => exact ⟨(fun h => by cases h), (fun _ j k' _ _ hch => by cases hch)⟩

def Calm (Q : Exit → Act → World → Prop) : Exit → Act → World → Prop
  | .panic _, _, _ => False
  | e, a, w => Q e a w

/-- What a walk over the operations of a region, one behind the other, may lean on. -/
structure Walks (dr : Bool) (ro : Option Nat) (P : Program) (ops : Array Oper) (Q : Exit → Act → World → Prop) (G : Nat → (Nat → List Nat) → Act → World → Prop) : Prop where
  step : ∀ i pins a w, i < ops.size → StepP dr ro P ops Q (fun j => (depT ops.toList []).getD j 0) i pins (G (i + 1)) a w → G i pins a w
  done : ∀ pins a w, Q .normal a w → G ops.size pins a w

theorem walks_lin : Walks true ro P ops Q (fun i => planRun (StepP true ro P ops Q (fun j => (depT ops.toList []).getD j 0)) (Q .normal) (linP (ops.toList.drop i) i)) := by
  refine ⟨fun i pins a w hi h => ?_, fun pins a w h => ?_⟩
  · have : ops.toList.drop i = ops.toList[i]'(by simpa using hi) :: ops.toList.drop (i + 1) := List.drop_eq_getElem_cons (by simpa using hi)
    rw [this]
    exact h
  · have : ops.toList.drop ops.size = [] := List.drop_eq_nil_of_le (by simp)
    rw [this]
    exact h
theorem walks_text : Walks false ro P ops Q (fun i _ a w => wpOpsIn (FW ro) 0 P ops Q (List.range' i (ops.size - i)) a w) := by
  refine ⟨fun i pins a w hi h => ?_, fun pins a w h => ?_⟩
  · have e1 : ops.size - i = (ops.size - (i + 1)) + 1 := by omega
    rw [e1, List.range'_succ, wpOpsIn_cons]
    obtain ⟨o, ho, ⟨hq, v, b, hy, _, hn⟩ | ⟨hq, hn⟩⟩ := h
    · exact hy.here.wpOpIn ho hq hn
    · exact wpOpIn_mono (fun a' w' h' => h'.2) hn
  · simp only [Nat.sub_self, List.range'_zero, wpOpsIn]
    exact h

/-- a region, from its walk -/
theorem region_of_walk {id : Nat} {dr : Bool} {a : Act} {w : World} (hm : dr = true → P.follows .mixedOrders = true ∧ planOk ops (depT ops.toList []) (linP ops.toList 0) true ops.size 0 = true)
    (h : ∀ G, Walks dr ro P ops (Calm Q) G → G 0 (fun _ => []) a (if dr = true then { w with drawn := w.drawn + 1 } else w)) : (Code.region id ops dr).wpIn (FW ro) 0 P Q a w := by
  refine wpIn_mono (Q := Calm Q) ?_ fun e a w he => by cases e <;> first | exact he | exact he.elim
  cases dr with
  | true =>
    obtain ⟨h1, h2⟩ := hm rfl
    refine wpIn_region_any h1 ?_
    have := anyS_sound _ _ _ _ _ ((plan_sound (fun _ _ _ h => h) _ true _ 0 _ a _ h2 (fun k o ho hk => by rw [maskA_getD] at hk; split at hk <;> simp at hk) (fun j hj => by simp at hj) (fun j hj => absurd rfl hj) (h _ walks_lin)).1 rfl)
    rw [maskA_zero] at this
    exact this
  | false =>
    refine wpIn_region ?_
    have := h _ walks_text
    simpa [List.range_eq_range'] using this
theorem region_of_plan {id : Nat} {a : Act} {w : World} (hm : P.follows .mixedOrders = true) (hok : planOk ops (depT ops.toList []) (planOf ops) true ops.size 0 = true)
    (h : planRun (StepP true ro P ops (Calm Q) (fun j => (depT ops.toList []).getD j 0)) (Calm Q .normal) (planOf ops) (fun _ => []) a { w with drawn := w.drawn + 1 }) : (Code.region id ops true).wpIn (FW ro) 0 P Q a w := by
  refine wpIn_mono (Q := Calm Q) ?_ fun e a w he => by cases e <;> first | exact he | exact he.elim
  refine wpIn_region_any hm ?_
  have := anyS_sound _ _ _ _ _ ((plan_sound (fun _ _ _ h => h) _ true _ 0 _ a _ hok (fun k o ho hk => by rw [maskA_getD] at hk; split at hk <;> simp at hk) (fun j hj => by simp at hj) (fun j hj => absurd rfl hj) h).1 rfl)
  rw [maskA_zero] at this
  exact this
end
end Go.Sx
