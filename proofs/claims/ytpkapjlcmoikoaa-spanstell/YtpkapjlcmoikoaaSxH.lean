import Derived.Test.YtpkapjlcmoikoaaSxD
import Derived.Laws.Tables
set_option linter.all false
/-
  Quiet operations: they leave the heap as it is.
-/
namespace Go.Sx
open Go

structure QR where
  ast : List E
  v : SV
  rd : Option Nat

/-- in whatever world in which the block that was read is as it is here, the operation yields that value and turns nothing -/
def QOk (P : Program) (ρ : Rho) (g : Operand → Value) (o : Oper) (r : QR) (w : World) : Prop :=
  ∃ v, SV.R ρ r.v v ∧ ∀ w', (∀ h p, r.rd = some h → ρ h = some (some p) → w'.heap[p.a.block]? = w.heap[p.a.block]?) → (execOp g o).run P w' = .ok (.value v) w'

def okG (P : Program) (t : TypeId) : SV → Bool
  | .agg _ => !(P.eqGuardType P.depth t)
  | .bool _ | .int .. | .ptr .. | .mp _ | .fn .. => true
  | .lit (.string _) | .lit (.pointer _) | .lit (.map _) | .lit .nilFunc => true
  | _ => false
theorem okG_run {P : Program} {ρ : Rho} {t : TypeId} {x : SV} (h : okG P t x = true) {op : BinOp} {a b : Operand} {vx vy : Value} (hx : SV.R ρ x vx) {y : SV} (hy : SV.R ρ y vy) (hyx : ∀ l, x = .agg l → ∃ m, y = .agg m) (w : World) :
    (eqGuard op t a b vx vy).run P w = .ok () w := by
  cases x with
  | agg l =>
    obtain ⟨m, rfl⟩ := hyx l rfl
    simp only [SV.R] at hx hy
    obtain ⟨xs, rfl, _⟩ := hx
    obtain ⟨ys, rfl, _⟩ := hy
    exact run_eqGuard_agg w op t a b xs ys (by simpa [okG] using h)
  | bool e => simp only [SV.R] at hx; subst hx; rw [eqGuard_at_bool]; rfl
  | int k e => simp only [SV.R] at hx; subst hx; rw [eqGuard_at_int]; rfl
  | ptr g o => simp only [SV.R] at hx; obtain ⟨_, p, _, rfl⟩ := hx; rw [eqGuard_at_pointer]; rfl
  | mp g => simp only [SV.R] at hx; obtain ⟨p, _, _, _, rfl⟩ := hx; rw [eqGuard_at_map]; rfl
  | fn f p q => simp only [SV.R] at hx; obtain ⟨_, _, rfl, _⟩ := hx; rw [eqGuard_at_func]; rfl
  | lit v =>
    simp only [SV.R] at hx; subst hx
    cases vx <;> simp [okG] at h
    · rw [eqGuard_at_string]; rfl
    · rw [eqGuard_at_pointer]; rfl
    · rw [eqGuard_at_map]; rfl
    · rw [eqGuard_at_nilFunc]; rfl
  | _ => simp [okG] at h

def sameAgg : SV → SV → Bool
  | .agg _, .agg _ => true
  | .agg _, _ => false
  | _, _ => true
def binopV (P : Program) (op : BinOp) (t : TypeId) (x y : SV) : Option (List E × SV) :=
  match op with
  | .eql => match eqV P 20 t x y, okG P t x, sameAgg x y with
    | some e, true, true => some ([], .bool e)
    | _, _, _ => none
  | .neq => match eqV P 20 t x y, okG P t x, sameAgg x y with
    | some e, true, true => some ([], .bool (not' e))
    | _, _, _ => none
  | .shl => match x, y with
    | .int k a, .int _ b => some ([cmp' .leq (.lit 0) b], .int k (ar' .shl k a b))
    | _, _ => none
  | .shr => match x, y with
    | .int k a, .int _ b => some ([cmp' .leq (.lit 0) b], .int k (ar' .shr k a b))
    | _, _ => none
  | op => match x, y with
    | .int k a, .int k' b => match decide (k = k') with
      | true => match op with
        | .lss | .leq | .gtr | .geq => some ([], .bool (cmp' op a b))
        | .quo | .rem => some ([cmp' .neq b (.lit 0)], .int k (ar' op k a b))
        | .add | .sub | .mul | .and | .or | .xor | .andNot => some ([], .int k (ar' op k a b))
        | _ => none
      | false => none
    | _, _ => none

theorem sameAgg_spec {x y : SV} (h : sameAgg x y = true) : ∀ l, x = .agg l → ∃ m, y = .agg m := by
  intro l e
  subst e
  cases y <;> simp [sameAgg] at h
  exact ⟨_, rfl⟩

def pmf : Value → Bool
  | .pointer _ | .map _ | .func .. | .nilFunc => true
  | _ => false
theorem scalarEq_cases {td : TypeDesc} {x y : SV} {e : E} (h : scalarEq td x y = some e) :
    (∃ a b, x = .bool a ∧ y = .bool b) ∨ (∃ k a b, x = .int k a ∧ y = .int k b ∧ e = cmp' .eql a b) ∨
    (∃ a b, x = .lit (.string a) ∧ y = .lit (.string b) ∧ e = .bl (a.toList == b.toList)) ∨
    (∀ (ρ : Rho) vx vy, SV.R ρ x vx → SV.R ρ y vy → pmf vx = true ∧ pmf vy = true) := by
  have hp : ∀ {ρ : Rho} {g o v}, SV.R ρ (.ptr g o) v → pmf v = true := fun h => by
    simp only [SV.R] at h; obtain ⟨_, p, _, rfl⟩ := h; rfl
  have hm : ∀ {ρ : Rho} {g v}, SV.R ρ (.mp g) v → pmf v = true := fun h => by
    simp only [SV.R] at h; obtain ⟨p, _, _, _, rfl⟩ := h; rfl
  have hf : ∀ {ρ : Rho} {f a b v}, SV.R ρ (.fn f a b) v → pmf v = true := fun h => by
    simp only [SV.R] at h; obtain ⟨_, _, rfl, _⟩ := h; rfl
  have hl : ∀ {ρ : Rho} {u v}, SV.R ρ (.lit u) v → pmf u = true → pmf v = true := fun h k => by
    simp only [SV.R] at h; subst h; exact k
  unfold scalarEq at h
  split at h
  · split at h
    · exact .inl ⟨_, _, rfl, rfl⟩
    · cases h
  · split at h
    · split at h
      · rename_i hk
        have hk := of_decide_eq_true hk
        subst hk
        cases h
        exact .inr (.inl ⟨_, _, _, rfl, rfl, rfl⟩)
      · cases h
    · cases h
  · split at h
    · cases h; exact .inr (.inr (.inl ⟨_, _, rfl, rfl, rfl⟩))
    · cases h
  · refine .inr (.inr (.inr fun ρ vx vy h1 h2 => ?_))
    split at h
    · exact ⟨hl h1 rfl, hl h2 rfl⟩
    · exact ⟨hp h1, hl h2 rfl⟩
    · exact ⟨hl h1 rfl, hp h2⟩
    · cases h
  · refine .inr (.inr (.inr fun ρ vx vy h1 h2 => ?_))
    split at h
    · exact ⟨hl h1 rfl, hl h2 rfl⟩
    · exact ⟨hm h1, hl h2 rfl⟩
    · exact ⟨hl h1 rfl, hm h2⟩
    · cases h
  · refine .inr (.inr (.inr fun ρ vx vy h1 h2 => ?_))
    split at h
    · exact ⟨hl h1 rfl, hl h2 rfl⟩
    · exact ⟨hf h1, hl h2 rfl⟩
    · exact ⟨hl h1 rfl, hf h2⟩
    · cases h
  · cases h
theorem eqV_cases {P : Program} {d : Nat} {t : TypeId} {x y : SV} {e : E} (h : eqV P (d + 1) t x y = some e) :
    (∃ xs ys, x = .agg xs ∧ y = .agg ys) ∨ ∃ td, P.underlying t = some td ∧ scalarEq td x y = some e := by
  simp only [eqV] at h
  split at h
  · cases h
  · split at h
    · exact .inl ⟨_, _, rfl, rfl⟩
    · cases h
  · split at h
    · exact .inl ⟨_, _, rfl, rfl⟩
    · cases h
  · rename_i ht; exact .inr ⟨_, ht, h⟩

theorem binop_eql (t : TypeId) (x y : SV) {ρ : Rho} {P : Program} {e : E} (he : eqV P 20 t x y = some e) {vx vy : Value} (hx : SV.R ρ x vx) (hy : SV.R ρ y vy) (w : World) :
    (binOp .eql t vx vy).run P w = .ok (.bool e.b) w ∧ (binOp .neq t vx vy).run P w = .ok (.bool (!e.b)) w := by
  have h := eqV_R 20 t x y e he Op.maxDepth (by simp [Op.maxDepth]) vx vy hx hy w
  have gen : (binOp .eql t vx vy = do pure (.bool (← Op.equal t vx vy))) → (binOp .neq t vx vy = do pure (.bool (!(← Op.equal t vx vy)))) → (binOp .eql t vx vy).run P w = .ok (.bool e.b) w ∧ (binOp .neq t vx vy).run P w = .ok (.bool (!e.b)) w := fun g1 g2 => by
    rw [g1, g2]
    simp only [Op.equal, Sem.run_bind, h, Result.andThen_ok, Sem.run_pure, and_self]
  rcases eqV_cases he with ⟨xs, ys, rfl, rfl⟩ | ⟨td, ht, hs⟩
  · simp only [SV.R] at hx hy
    obtain ⟨_, rfl, _⟩ := hx
    obtain ⟨_, rfl, _⟩ := hy
    exact gen rfl rfl
  · rcases scalarEq_cases hs with ⟨a, b, rfl, rfl⟩ | ⟨k, a, b, rfl, rfl, rfl⟩ | ⟨a, b, rfl, rfl, rfl⟩ | H
    · simp only [SV.R] at hx hy
      subst hx; subst hy
      exact gen rfl rfl
    · simp only [SV.R] at hx hy
      subst hx; subst hy
      rw [binOp_eql, binOp_neq]
      simp only [Sem.run_pure, cmp'_b, cmpD, bne, and_self]
    · simp only [SV.R] at hx hy
      subst hx; subst hy
      simp only [binOp, Op.stringOp, Sem.run_pure, E.b_bl, and_self]
    · obtain ⟨h1, h2⟩ := H ρ vx vy hx hy
      cases vx <;> simp [pmf] at h1 <;> cases vy <;> simp [pmf] at h2 <;> exact gen rfl rfl

theorem binopV_R {P : Program} {ρ : Rho} {op : BinOp} {t : TypeId} {x y r : SV} {asr : List E} (h : binopV P op t x y = some (asr, r)) (ha : astOk asr) {a b : Operand} {vx vy : Value} (hx : SV.R ρ x vx) (hy : SV.R ρ y vy) :
    ∃ v, SV.R ρ r v ∧ ∀ w, ((do eqGuard op t a b vx vy; binOp op t vx vy : Sem Value)).run P w = .ok v w := by
  have hg : ∀ w, op ≠ .eql → op ≠ .neq → (eqGuard op t a b vx vy).run P w = .ok () w := fun w h1 h2 => by
    cases op <;> first | rfl | exact absurd rfl h1 | exact absurd rfl h2
  unfold binopV at h
  split at h
  · split at h
    · rename_i e he hk hs
      cases h
      exact ⟨_, (by simp only [SV.R]; rfl), fun w => by
        simp only [Sem.run_bind, okG_run hk hx hy (sameAgg_spec hs), Result.andThen_ok]
        exact (binop_eql t x y he hx hy w).1⟩
    · cases h
  · split at h
    · rename_i e he hk hs
      cases h
      exact ⟨_, (by simp only [SV.R]; rfl), fun w => by
        simp only [Sem.run_bind, okG_run hk hx hy (sameAgg_spec hs), Result.andThen_ok, not'_b]
        exact (binop_eql t x y he hx hy w).2⟩
    · cases h
  · split at h
    · rename_i k a' k' b'
      cases h
      simp only [SV.R] at hx hy
      subst hx; subst hy
      have h0 : 0 ≤ b'.i := by
        have := ha _ (List.mem_singleton.2 rfl)
        rw [cmp'_b] at this
        exact of_decide_eq_true this
      refine ⟨_, (by simp only [SV.R]; rfl), fun w => ?_⟩
      simp only [Sem.run_bind, hg w (by simp) (by simp), Result.andThen_ok, binOp_shl, Op.shift]
      rw [if_neg (by omega)]
      simp [arD]
    · cases h
  · split at h
    · rename_i k a' k' b'
      cases h
      simp only [SV.R] at hx hy
      subst hx; subst hy
      have h0 : 0 ≤ b'.i := by
        have := ha _ (List.mem_singleton.2 rfl)
        rw [cmp'_b] at this
        exact of_decide_eq_true this
      refine ⟨_, (by simp only [SV.R]; rfl), fun w => ?_⟩
      simp only [Sem.run_bind, hg w (by simp) (by simp), Result.andThen_ok, binOp_shr, Op.shift]
      rw [if_neg (by omega)]
      simp [arD]
    · cases h
  · rename_i o1 o2 o3 o4
    split at h
    · rename_i k a' k' b'
      split at h
      · rename_i hk
        have hk := of_decide_eq_true hk
        subst hk
        simp only [SV.R] at hx hy
        subst hx; subst hy
        have hg' := fun w => hg w o1 o2
        cases op <;> simp only at h <;> cases h
        all_goals (refine ⟨_, (by simp only [SV.R]; rfl), fun w => ?_⟩; simp only [Sem.run_bind, hg' w, Result.andThen_ok])
        · simp [Op.intArith, binOp_add, arD]
        · simp [Op.intArith, binOp_sub, arD]
        · simp [Op.intArith, binOp_mul, arD]
        · have h0 : b'.i ≠ 0 := by
            have := ha _ (List.mem_singleton.2 rfl)
            rw [cmp'_b] at this
            simpa [cmpD] using this
          simp [Op.intDiv, binOp_quo, arD, h0]
        · have h0 : b'.i ≠ 0 := by
            have := ha _ (List.mem_singleton.2 rfl)
            rw [cmp'_b] at this
            simpa [cmpD] using this
          simp [Op.intDiv, binOp_rem, arD, h0]
        · simp [Op.intBits, binOp_and, arD]
        · simp [Op.intBits, binOp_or, arD]
        · simp [Op.intBits, binOp_xor, arD]
        · simp [Op.intBits, binOp_andNot, arD]
        · simp [binOp_lss, cmpD]
        · simp [binOp_leq, cmpD]
        · simp [binOp_gtr, cmpD]
        · simp [binOp_geq, cmpD]
      · cases h
    · cases h


/-! ### the quiet operations -/
def q0 (a : List E) (v : SV) : Option QR := some ⟨a, v, none⟩

def loadQ (P : Program) (H : Heap) (t : TypeId) (x : SV) : Option QR :=
  match x with
  | .ptr h o => match hfind H h with
    | none => none
    | some (_, ob) => match P.underlying t with
      | none => none
      | some d => match isAggD d with
        | true => match P.info? t with
          | none => none
          | some i => match ob.gets o i.size with
            | some (a, vs) => some ⟨a, .agg vs, some h⟩
            | none => none
        | false => match ob.gets o 1 with
          | some (a, [v]) => some ⟨a, v, some h⟩
          | _ => none
  | _ => none

/-- 0 ≤ i, where it is not seen -/
def nonneg (i : E) : List E :=
  match cmp' .leq (.lit 0) i with
  | .bl true => []
  | e => [e]
def below (op : BinOp) (i n : E) : List E :=
  match cmp' op i n with
  | .bl true => []
  | e => [e]
theorem nonneg_ok {i : E} (h : astOk (nonneg i)) : 0 ≤ i.i := by
  unfold nonneg at h
  have e := cmp'_b .leq (.lit 0) i
  split at h
  · rename_i hc; rw [hc] at e; exact of_decide_eq_true e.symm
  · have := h _ (List.mem_singleton.2 rfl); rw [e] at this; exact of_decide_eq_true this
theorem below_ok {op : BinOp} {i n : E} (h : astOk (below op i n)) : cmpD op i.i n.i = true := by
  unfold below at h
  have e := cmp'_b op i n
  split at h
  · rename_i hc; rw [hc] at e; exact e.symm
  · have := h _ (List.mem_singleton.2 rfl); rw [e] at this; exact this
theorem astOk_app {a b : List E} (h : astOk (a ++ b)) : astOk a ∧ astOk b :=
  ⟨fun e he => h e (List.mem_append.2 (.inl he)), fun e he => h e (List.mem_append.2 (.inr he))⟩

theorem loadQ_ok {P : Program} {ρ : Rho} {H : Heap} {g : Operand → Value} {o : Oper} {t : TypeId} {x : Operand} {f : Operand → SV} {r : QR} {w : World} (hop : o.op = .load t x) (hR : RO ρ f g)
    (hobj : ∀ h own ob, hfind H h = some (own, ob) → ∃ op, ρ h = some op ∧ ob.R ρ w op) (h : loadQ P H t (f x) = some r) (ha : astOk r.ast) : QOk P ρ g o r w := by
  have hx := hR x
  unfold loadQ at h
  split at h
  · rename_i hd off hfx
    rw [hfx] at hx
    simp only [SV.R] at hx
    obtain ⟨hpos, p, hp, hgx⟩ := hx
    split at h
    · cases h
    · rename_i own ob hf
      obtain ⟨op, hop', hob⟩ := hobj _ _ _ hf
      rw [hp] at hop'; cases hop'
      split at h
      · cases h
      · rename_i d hund
        split at h
        · rename_i hagg
          split at h
          · cases h
          · rename_i i hi
            split at h
            · rename_i a vs hg
              cases h
              obtain ⟨xs, hl, hc, hrl⟩ := gets_R hob hpos hg ha
              refine ⟨.agg xs.toArray, by simp only [SV.R]; exact ⟨_, rfl, hrl⟩, fun w' hw' => ?_⟩
              have hb := hw' hd p rfl hp
              have hc' : ∀ j v, xs[j]? = some v → w'.cell? ((p.a.add off.n).add j) = some v := fun j v hj => by
                rw [cell_of_block (w := w) (by rw [Addr.add_block, Addr.add_block]; exact hb)]
                exact (hc j v hj).1
              have hrun := run_loadCells_list (P := P) w' (p.a.add off.n) xs hc'
              rw [hl] at hrun
              unfold execOp
              simp only [hop, hgx, Instr.loadAt, Instr.sureAddr, loadVar, Sem.run_bind, Sem.run_pure, Result.andThen_ok, run_isAgg hund, hagg, if_true, run_size hi, hrun]
            · cases h
        · rename_i hagg
          split at h
          · rename_i a v hg
            cases h
            obtain ⟨xs, hl, hc, hrl⟩ := gets_R hob hpos hg ha
            match xs, hl with
            | [x0], _ =>
              simp only [SV.RL, and_true] at hrl
              refine ⟨x0, hrl, fun w' hw' => ?_⟩
              have hb := hw' hd p rfl hp
              have hc' : w'.cell? (p.a.add off.n) = some x0 := by
                rw [cell_of_block (w := w) (by rw [Addr.add_block]; exact hb)]
                have := (hc 0 x0 rfl).1
                simpa [Addr.add] using this
              unfold execOp
              simp only [hop, hgx, Instr.loadAt, Instr.sureAddr, loadVar, Sem.run_bind, Sem.run_pure, Result.andThen_ok, run_isAgg hund, hagg, Bool.false_eq_true, if_false, run_load, hc']
          · cases h
  · cases h

end Go.Sx
/-
  Structs and arrays that are built; slices that are cut; the quiet operations, all.
-/
namespace Go.Sx
open Go

def setAll : List SV → Nat → List SV → List SV
  | cells, _, [] => cells
  | cells, off, v :: r => setAll (setT cells off v) (off + 1) r
theorem setAll_length : ∀ (l : List SV) (cells : List SV) (off : Nat), (setAll cells off l).length = cells.length
  | [], _, _ => rfl
  | v :: r, cells, off => by simp [setAll, setAll_length r, setT_eq]
def sfill (place : Nat → Option (Nat × Nat)) : List SV → List (Nat × SV) → Option (List SV)
  | cells, [] => some cells
  | cells, (i, v) :: rest => match place i with
    | none => none
    | some (off, size) => match v.cellsO with
      | none => none
      | some l => match Nat.beq l.length size, Nat.ble (off + l.length) cells.length with
        | true, true => sfill place (setAll cells off l) rest
        | _, _ => none

theorem setAll_R {ρ : Rho} : ∀ (l : List SV) (vs : List Value) (cells : List SV) (arr : Array Value) (off n : Nat), SV.RL ρ l vs → SV.RL ρ cells arr.toList →
    SV.RL ρ (setAll cells (off + n) l) ((vs.zipIdx n).foldl (fun cs (x : Value × Nat) => cs.setIfInBounds (off + x.2) x.1) arr).toList
  | [], [], cells, arr, off, n, _, h => by simpa [setAll] using h
  | s :: l, v :: vs, cells, arr, off, n, hl, h => by
    simp only [SV.RL] at hl
    simp only [setAll, List.zipIdx_cons, List.foldl_cons, setT_eq]
    have := setAll_R l vs (cells.set (off + n) s) (arr.setIfInBounds (off + n) v) off (n + 1) hl.2 (by
      rw [Array.toList_setIfInBounds]; exact RL_set h _ hl.1)
    exact this
  | [], _ :: _, _, _, _, _, h, _ => by simp [SV.RL] at h
  | _ :: _, [], _, _, _, _, h, _ => by simp [SV.RL] at h

def PartsR (ρ : Rho) : List (Nat × SV) → List (Nat × Value) → Prop
  | [], [] => True
  | (i, s) :: l, (j, v) :: r => i = j ∧ SV.R ρ s v ∧ PartsR ρ l r
  | _, _ => False

theorem fill_R {ρ : Rho} {place : Nat → Option (Nat × Nat)} : ∀ (parts : List (Nat × SV)) (vparts : List (Nat × Value)) (cells : List SV) (arr : Array Value) (c : List SV),
    PartsR ρ parts vparts → SV.RL ρ cells arr.toList → sfill place cells parts = some c → ∃ vc, Instr.fill place arr vparts = some vc ∧ SV.RL ρ c vc.toList
  | [], [], cells, arr, c, _, h, e => by simp only [sfill] at e; cases e; exact ⟨arr, rfl, h⟩
  | (i, s) :: l, (j, v) :: r, cells, arr, c, hp, h, e => by
    simp only [PartsR] at hp
    obtain ⟨rfl, hs, hp⟩ := hp
    simp only [sfill] at e
    split at e
    · cases e
    · rename_i off size hpl
      split at e
      · cases e
      · rename_i m hm
        split at e
        · rename_i h1 h2
          have h1 := Nat.eq_of_beq_eq_true h1
          have h2 := Nat.le_of_ble_eq_true h2
          obtain ⟨hr, _⟩ := cellsO_R hs hm
          have hlen := RL_length hr
          have hlen2 := RL_length h
          have ih := fill_R l r (setAll cells off m) _ c hp (by
            have := setAll_R m v.cells.toList cells arr off 0 hr h
            simpa using this) e
          obtain ⟨vc, hvc, hrc⟩ := ih
          refine ⟨vc, ?_, hrc⟩
          simp only [Instr.fill, hpl]
          have hsz : v.cells.size = m.length := by simpa using hlen.symm
          have hsz2 : cells.length = arr.size := by simpa using hlen2
          rw [if_neg (by simp only [ne_eq, Bool.or_eq_true, decide_eq_true_eq, gt_iff_lt, not_or]; omega)]
          rw [← hvc]
          congr 1
          rw [← Array.foldl_toList]
          simp
        · cases e
  | [], _ :: _, _, _, _, h, _, _ => by simp [PartsR] at h
  | _ :: _, [], _, _, _, h, _, _ => by simp [PartsR] at h

def zeroL (i : TypeInfo) : Option (List SV) :=
  match i.zero with
  | some v => some (v.cells.toList.map ofConst0)
  | none => none
def placesL (P : Program) : List Field → Option (List (Nat × Nat))
  | [] => some []
  | f :: fs => match P.info? f.type, placesL P fs with
    | some i, some r => some ((f.offset, i.size) :: r)
    | _, _ => none
theorem placesL_eq (P : Program) : ∀ fs, placesL P fs = fs.mapM (fun f => (P.info? f.type).map fun i => (f.offset, i.size))
  | [] => rfl
  | f :: fs => by
    simp only [placesL, List.mapM_cons, placesL_eq P fs]
    cases P.info? f.type with
    | none => simp
    | some i =>
      cases fs.mapM (fun f => (P.info? f.type).map fun i => (f.offset, i.size)) <;> simp

def builtS (P : Program) (t : TypeId) (parts : List (Nat × SV)) : Option (List SV) :=
  match P.info? t with
  | none => none
  | some it => match zeroL it with
    | none => none
    | some z => match P.underlying t with
      | some (.array _ e) => match P.info? e with
        | some ie => sfill (fun i => some (i * ie.size, ie.size)) z parts
        | none => none
      | some (.struct fields) => match placesL P fields.toList with
        | some places => sfill (fun i => places[i]?) z parts
        | none => none
      | _ => none
theorem builtS_R {P : Program} {ρ : Rho} {t : TypeId} {parts : List (Nat × SV)} {vparts : List (Nat × Value)} {c : List SV} (h : builtS P t parts = some c) (hp : PartsR ρ parts vparts) :
    ∃ vc, P.built t vparts = some vc ∧ SV.RL ρ c vc.toList := by
  unfold builtS at h
  split at h
  · cases h
  · rename_i it hit
    split at h
    · cases h
    · rename_i z hz
      unfold zeroL at hz
      split at hz
      · rename_i v hv
        cases hz
        have hzr : SV.RL ρ (v.cells.toList.map ofConst0) v.cells.toList := map_ofConst0_R ρ _
        split at h
        · rename_i n e hu
          split at h
          · rename_i ie hie
            obtain ⟨vc, h1, h2⟩ := fill_R _ _ _ v.cells _ hp hzr h
            exact ⟨vc, by simp only [Program.built, hit, hu, hv, hie]; exact h1, h2⟩
          · cases h
        · rename_i fields hu
          split at h
          · rename_i places hpl
            obtain ⟨vc, h1, h2⟩ := fill_R _ _ _ v.cells _ hp hzr h
            rw [placesL_eq] at hpl
            exact ⟨vc, by simp only [Program.built, hit, hu, hv, hpl]; simpa using h1, h2⟩
          · cases h
        · cases h
      · cases hz

theorem partsR_map {ρ : Rho} {f : Operand → SV} {g : Operand → Value} (hR : RO ρ f g) : ∀ l : List (Nat × Operand), PartsR ρ (l.map fun (i, x) => (i, f x)) (l.map fun (i, x) => (i, g x))
  | [] => by simp [PartsR]
  | (i, x) :: r => by simp only [List.map_cons, PartsR]; exact ⟨trivial, hR x, partsR_map hR r⟩
theorem RL_map {ρ : Rho} {f : Operand → SV} {g : Operand → Value} (hR : RO ρ f g) : ∀ l : List Operand, SV.RL ρ (l.map f) (l.map g)
  | [] => by simp [SV.RL]
  | x :: r => by simp only [List.map_cons, SV.RL]; exact ⟨hR x, RL_map hR r⟩

end Go.Sx
/-
  Slices that are cut; addresses of elements; the quiet operations, all.
-/
namespace Go.Sx
open Go

theorem run_sliceBound {P : Program} (w : World) (k : IntKind) (i : Int) (y : Nat) (code : BoundsCode) (h0 : 0 ≤ i) (h1 : i ≤ (y : Int)) : (Instr.sliceBound (.int k i) y code).run P w = .ok i.toNat w := by
  simp [Instr.sliceBound, asIntOf, h0, h1]

def limE (len : E) : Option E → E
  | some c => c
  | none => len
/-- the capacity's end of a slice expression -/
def bTop (len : E) (cap : Option E) : Option SV → Option (List E × E × Option E)
  | some (.int _ m) => some (nonneg m ++ below .leq m (limE len cap), m, some m)
  | some _ => none
  | none => some ([], limE len cap, cap)
def bHi (len hm : E) (mx : Option SV) : Option SV → Option (List E × E)
  | some (.int _ h) => some (nonneg h ++ below .leq h hm, h)
  | some _ => none
  | none => match mx with
    | none => some ([], len)
    | some _ => none
def bLo (h : E) : Option SV → Option (List E × E)
  | some (.int _ l) => some (nonneg l ++ below .leq l h, l)
  | some _ => none
  | none => some ([], .lit 0)
/-- the three bounds of a slice expression: what must hold; from, to, the capacity's end (none: not known) -/
def bnds (len : E) (cap : Option E) (lo hi mx : Option SV) : Option (List E × E × E × Option E) :=
  match bTop len cap mx with
  | none => none
  | some (a0, hm, m) => match bHi len hm mx hi with
    | none => none
    | some (a1, h) => match bLo h lo with
      | none => none
      | some (a2, l) => some (a0 ++ (a1 ++ a2), l, h, m)

def optR (ρ : Rho) : Option SV → Option Value → Prop
  | none, none => True
  | some s, some v => SV.R ρ s v
  | _, _ => False

theorem bTop_ok {P : Program} {ρ : Rho} {len : E} {cap : Option E} {mx : Option SV} {a : List E} {hm : E} {m : Option E} (h : bTop len cap mx = some (a, hm, m)) (ha : astOk a)
    {n c : Nat} (hl : len.i = (n : Int)) (hc : ∀ e, cap = some e → e.i = (c : Int)) (hn : n ≤ c) {vmx : Option Value} (r : optR ρ mx vmx) :
    ∃ mm : Nat, (∀ e, m = some e → e.i = (mm : Int)) ∧ hm.i ≤ (mm : Int) ∧ mm ≤ c ∧ (mx = none → mm = c ∧ (n : Int) ≤ hm.i) ∧
      ((vmx = none ∧ mm = c) ∨ ∃ v, vmx = some v ∧ ∀ (code : BoundsCode) w, (Instr.sliceBound v c code).run P w = .ok mm w) := by
  have lim : (limE len cap).i ≤ (c : Int) ∧ (n : Int) ≤ (limE len cap).i := by
    cases cap with
    | none => simp only [limE]; omega
    | some q => have := hc q rfl; simp only [limE]; omega
  cases mx with
  | none =>
    cases vmx with
    | some v => exact r.elim
    | none =>
      cases h
      exact ⟨c, hc, lim.1, Nat.le_refl _, fun _ => ⟨rfl, lim.2⟩, .inl ⟨rfl, rfl⟩⟩
  | some s =>
    cases vmx with
    | none => exact r.elim
    | some v =>
      cases s with
      | int k q =>
        cases h
        obtain ⟨x1, x2⟩ := astOk_app ha
        have y1 := nonneg_ok x1
        have y2 : hm.i ≤ _ := of_decide_eq_true (below_ok x2)
        simp only [optR, SV.R] at r
        subst r
        refine ⟨hm.i.toNat, fun e he => by cases he; omega, by omega, by omega, fun h => by (cases h), .inr ⟨_, rfl, fun code w => run_sliceBound w k hm.i c _ y1 (by omega)⟩⟩
      | _ => cases h

theorem bHi_ok {P : Program} {ρ : Rho} {len hm : E} {mx hi : Option SV} {a : List E} {h : E} (e : bHi len hm mx hi = some (a, h)) (ha : astOk a) {n mm : Nat} (hl : len.i = (n : Int)) (hm1 : hm.i ≤ (mm : Int)) (hn : mx = none → (n : Int) ≤ hm.i)
    {vhi : Option Value} (r : optR ρ hi vhi) : 0 ≤ h.i ∧ h.i ≤ (mm : Int) ∧ ((vhi = none ∧ mx = none ∧ h.i = n) ∨ ∃ v, vhi = some v ∧ ∀ (code : BoundsCode) w, (Instr.sliceBound v mm code).run P w = .ok h.i.toNat w) := by
  cases hi with
  | none =>
    cases vhi with
    | some v => exact r.elim
    | none =>
      cases mx with
      | some s => cases e
      | none =>
        cases e
        have := hn rfl
        exact ⟨by omega, by omega, .inl ⟨rfl, rfl, hl⟩⟩
  | some s =>
    cases vhi with
    | none => exact r.elim
    | some v =>
      cases s with
      | int k q =>
        cases e
        obtain ⟨x1, x2⟩ := astOk_app ha
        have y1 := nonneg_ok x1
        have y2 : h.i ≤ _ := of_decide_eq_true (below_ok x2)
        simp only [optR, SV.R] at r
        subst r
        exact ⟨y1, by omega, .inr ⟨_, rfl, fun code w => run_sliceBound w k h.i mm _ y1 (by omega)⟩⟩
      | _ => cases e

theorem bLo_ok {P : Program} {ρ : Rho} {h : E} {lo : Option SV} {a : List E} {l : E} (e : bLo h lo = some (a, l)) (ha : astOk a) (h0 : 0 ≤ h.i) {vlo : Option Value} (r : optR ρ lo vlo) :
    0 ≤ l.i ∧ l.i ≤ h.i ∧ ((vlo = none ∧ l.i = 0) ∨ ∃ v, vlo = some v ∧ ∀ (code : BoundsCode) w, (Instr.sliceBound v h.i.toNat code).run P w = .ok l.i.toNat w) := by
  cases lo with
  | none =>
    cases vlo with
    | some v => exact r.elim
    | none => cases e; exact ⟨by simp, by simpa using h0, .inl ⟨rfl, by simp⟩⟩
  | some s =>
    cases vlo with
    | none => exact r.elim
    | some v =>
      cases s with
      | int k q =>
        cases e
        obtain ⟨x1, x2⟩ := astOk_app ha
        have y1 := nonneg_ok x1
        have y2 : l.i ≤ h.i := of_decide_eq_true (below_ok x2)
        simp only [optR, SV.R] at r
        subst r
        exact ⟨y1, y2, .inr ⟨_, rfl, fun code w => run_sliceBound w k l.i _ _ y1 (by omega)⟩⟩
      | _ => cases e

theorem bnds_ok {P : Program} {ρ : Rho} {len : E} {cap : Option E} {lo hi mx : Option SV} {asr : List E} {l h : E} {m : Option E} (hb : bnds len cap lo hi mx = some (asr, l, h, m)) (ha : astOk asr)
    {n c : Nat} (hl : len.i = (n : Int)) (hc : ∀ e, cap = some e → e.i = (c : Int)) (hn : n ≤ c) {vlo vhi vmx : Option Value} (r1 : optR ρ lo vlo) (r2 : optR ρ hi vhi) (r3 : optR ρ mx vmx) (isS : Bool) :
    ∃ mm : Nat, (∀ e, m = some e → e.i = (mm : Int)) ∧ 0 ≤ l.i ∧ l.i ≤ h.i ∧ h.i ≤ (mm : Int) ∧ mm ≤ c ∧ ∀ w, (Instr.sliceBounds isS n c vlo vhi vmx).run P w = .ok (l.i.toNat, h.i.toNat, mm) w := by
  unfold bnds at hb
  split at hb
  · cases hb
  · rename_i a0 hm m' h1
    split at hb
    · cases hb
    · rename_i a1 h' h2
      split at hb
      · cases hb
      · rename_i a2 l' h3
        cases hb
        obtain ⟨x0, x1⟩ := astOk_app ha
        obtain ⟨x1, x2⟩ := astOk_app x1
        obtain ⟨mm, t1, t2, t3, t4, t5⟩ := bTop_ok (P := P) h1 x0 hl hc hn r3
        obtain ⟨u1, u2, u3⟩ := bHi_ok (P := P) h2 x1 hl t2 (fun e => (t4 e).2) r2
        obtain ⟨v1, v2, v3⟩ := bLo_ok (P := P) h3 x2 u1 r1
        refine ⟨mm, t1, v1, v2, u2, t3, fun w => ?_⟩
        rcases t5 with ⟨rfl, rfl⟩ | ⟨vm, rfl, tr⟩
        · rcases u3 with ⟨rfl, _, ur⟩ | ⟨vh, rfl, ur⟩
          · have ur' : h.i.toNat = n := by omega
            rcases v3 with ⟨rfl, vr⟩ | ⟨vl, rfl, vr⟩
            · simp [Instr.sliceBounds, vr, ur']
            · rw [ur'] at vr; simp [Instr.sliceBounds, vr, ur']
          · rcases v3 with ⟨rfl, vr⟩ | ⟨vl, rfl, vr⟩
            · simp [Instr.sliceBounds, vr, ur]
            · simp [Instr.sliceBounds, vr, ur]
        · rcases u3 with ⟨_, e, _⟩ | ⟨vh, rfl, ur⟩
          · subst e
            exact r3.elim
          · rcases v3 with ⟨rfl, vr⟩ | ⟨vl, rfl, vr⟩
            · simp [Instr.sliceBounds, vr, ur, tr]
            · simp [Instr.sliceBounds, vr, ur, tr]

end Go.Sx
namespace Go.Sx
open Go

def sliceQ (P : Program) (H : Heap) (t : TypeId) (x : SV) (lo hi mx : Option SV) : Option QR :=
  match P.underlying t with
  | some (.slice e) => match P.info? e with
    | none => none
    | some i => match x with
      | .sl h k off len cap => match Nat.beq k i.size with
        | false => none
        | true => match bnds len cap lo hi mx with
          | none => none
          | some (a, l, h', m) => match offIdx off l i.size with
            | none => none
            | some off' => some ⟨a, .sl h k off' (minus' h' l) (m.map fun q => minus' q l), none⟩
      | .lit (.slice none 0 0) => match bnds (.lit 0) (some (.lit 0)) lo hi mx with
        | none => none
        | some (a, _, _, _) => some ⟨a, .lit (.slice none 0 0), none⟩
      | _ => none
  | some (.array n e) => match P.info? e with
    | none => none
    | some i => match x with
      | .ptr h (.c o) => match hfind H h with
        | some (_, .cells _ vs) => match Nat.ble (o + n * i.size) vs.length, Nat.ble n 1000000 with
          | true, true => match bnds (.lit n) (some (.lit n)) lo hi mx with
            | none => none
            | some (a, l, h', m) => match offIdx (.c o) l i.size with
              | none => none
              | some off' => some ⟨a, .sl h i.size off' (minus' h' l) (m.map fun q => minus' q l), none⟩
          | _, _ => none
        | _ => none
      | _ => none
  | _ => none

theorem sliceQ_ok {P : Program} {ρ : Rho} {H : Heap} {g : Operand → Value} {o : Oper} {t : TypeId} {x : Operand} {lo hi mx : Option Operand} {f : Operand → SV} {r : QR} {w : World} (hop : o.op = .slice t x lo hi mx) (hR : RO ρ f g)
    (hobj : ∀ h own ob, hfind H h = some (own, ob) → ∃ op, ρ h = some op ∧ ob.R ρ w op) (h : sliceQ P H t (f x) (lo.map f) (hi.map f) (mx.map f) = some r) (ha : astOk r.ast) : QOk P ρ g o r w := by
  have hx := hR x
  have opt : ∀ y : Option Operand, optR ρ (y.map f) (y.map g) := fun y => by cases y <;> simp [optR]; exact hR _
  have ex : ∀ w', (execOp g o).run P w' = ((do pure (.value (← Instr.sliceAt t (g x) (lo.map g) (hi.map g) (mx.map g)))) : Sem Next).run P w' := fun w' => by unfold execOp; simp only [hop]
  unfold sliceQ at h
  split at h
  · rename_i e hu
    split at h
    · cases h
    · rename_i i hi'
      split at h
      · rename_i hd k off len cap hfx
        rw [hfx] at hx
        split at h
        · cases h
        · rename_i hk
          have hk := Nat.eq_of_beq_eq_true hk
          subst hk
          split at h
          · cases h
          · rename_i a l h' m hb
            split at h
            · cases h
            · rename_i off' hoff
              cases h
              simp only [SV.R] at hx
              obtain ⟨hpos, h0, op, oa, c, hp, hgx, hlc, hcm, hcap, hadr⟩ := hx
              obtain ⟨mm, m1, m2, m3, m4, m5, hrun⟩ := bnds_ok (P := P) (n := len.i.toNat) hb ha (Int.toNat_of_nonneg h0).symm hcap hlc (opt lo) (opt hi) (opt mx) true
              obtain ⟨o1, o2⟩ := offIdx_n hoff m2 hpos
              refine ⟨.slice (if mm = l.i.toNat then oa else oa.map (·.add (l.i.toNat * i.size))) (h'.i.toNat - l.i.toNat) (mm - l.i.toNat), ?_, fun w' _ => ?_⟩
              · simp only [SV.R, minus'_i]
                refine ⟨o2, by omega, op, (if mm = l.i.toNat then oa else oa.map (·.add (l.i.toNat * i.size))), mm - l.i.toNat, hp, ?_, by omega, by omega, ?_, fun hc0 => ?_⟩
                · rw [show (h'.i - l.i).toNat = h'.i.toNat - l.i.toNat by omega]
                · intro e he
                  cases m with
                  | none => cases he
                  | some q => cases he; have := m1 q rfl; simp only [minus'_i]; omega
                · obtain ⟨p, hp1, hp2, hp3⟩ := hadr (by omega)
                  refine ⟨p, hp1, ?_, ?_⟩
                  · rw [if_neg (by omega), hp2, o1]
                    simp only [Option.map_some, Addr.add_add']
                  · rw [o1]
                    have : (mm - l.i.toNat) * i.size ≤ (c - l.i.toNat) * i.size := Nat.mul_le_mul_right _ (by omega)
                    have e2 : l.i.toNat * i.size + (c - l.i.toNat) * i.size = c * i.size := by rw [← Nat.add_mul]; congr 1; omega
                    omega
              · rw [ex]
                simp only [hgx, Instr.sliceAt, Instr.slice, Sem.run_bind, run_underlying hu, Result.andThen_ok, hrun, run_size hi', Sem.run_pure]
      · rename_i hfx
        rw [hfx] at hx
        split at h
        · cases h
        · rename_i a l h' m hb
          cases h
          simp only [SV.R] at hx
          obtain ⟨mm, m1, m2, m3, m4, m5, hrun⟩ := bnds_ok (P := P) (n := 0) (c := 0) hb ha (by simp) (fun e he => by cases he; simp) (Nat.le_refl _) (opt lo) (opt hi) (opt mx) true
          refine ⟨_, (by simp only [SV.R]; rfl), fun w' _ => ?_⟩
          rw [ex]
          have e1 : l.i.toNat = 0 := by omega
          have e2 : h'.i.toNat = 0 := by omega
          have e3 : mm = 0 := by omega
          simp only [hx, Instr.sliceAt, Instr.slice, Sem.run_bind, run_underlying hu, Result.andThen_ok, hrun, run_size hi', Sem.run_pure, e1, e2, e3, if_true, Nat.sub_self]
      · cases h
  · rename_i n e hu
    split at h
    · cases h
    · rename_i i hi'
      split at h
      · rename_i hd off hfx
        rw [hfx] at hx
        split at h
        · rename_i own tt vs hf
          split at h
          · rename_i hle hn6
            have hle := Nat.le_of_ble_eq_true hle
            have hn6 := Nat.le_of_ble_eq_true hn6
            split at h
            · cases h
            · rename_i a l h' m hb
              split at h
              · cases h
              · rename_i off' hoff
                cases h
                simp only [SV.R] at hx
                obtain ⟨hpos, p, hp, hgx⟩ := hx
                obtain ⟨op, hop', hob⟩ := hobj _ _ _ hf
                rw [hp] at hop'; cases hop'
                obtain ⟨p', hp', hpn, _⟩ := hob
                cases hp'
                obtain ⟨mm, m1, m2, m3, m4, m5, hrun⟩ := bnds_ok (P := P) (n := n) (c := n) hb ha (by simp) (fun e he => by cases he; simp) (Nat.le_refl _) (opt lo) (opt hi) (opt mx) false
                obtain ⟨o1, o2⟩ := offIdx_n hoff m2 hpos
                refine ⟨.slice (some (if mm = l.i.toNat then p.a.add (Off.c off).n else (p.a.add (Off.c off).n).add (l.i.toNat * i.size))) (h'.i.toNat - l.i.toNat) (mm - l.i.toNat), ?_, fun w' _ => ?_⟩
                · simp only [SV.R, minus'_i]
                  refine ⟨o2, by omega, some p, some (if mm = l.i.toNat then p.a.add (Off.c off).n else (p.a.add (Off.c off).n).add (l.i.toNat * i.size)), mm - l.i.toNat, hp, ?_, by omega, (by simp only [maxLen]; omega), ?_, fun hc0 => ?_⟩
                  · rw [show (h'.i - l.i).toNat = h'.i.toNat - l.i.toNat by omega]
                  · intro e he
                    cases m with
                    | none => cases he
                    | some q => cases he; have := m1 q rfl; simp only [minus'_i]; omega
                  · refine ⟨p, rfl, ?_, ?_⟩
                    · rw [if_neg (by omega), o1]
                      simp only [Addr.add_add']
                    · rw [o1]
                      simp only [Off.n]
                      have : (mm - l.i.toNat) * i.size ≤ (n - l.i.toNat) * i.size := Nat.mul_le_mul_right _ (by omega)
                      have e2 : l.i.toNat * i.size + (n - l.i.toNat) * i.size = n * i.size := by rw [← Nat.add_mul]; congr 1; omega
                      omega
                · rw [ex]
                  simp only [hgx, Instr.sliceAt, Instr.sureAddr, Sem.run_bind, run_underlying hu, Result.andThen_ok, hrun, run_size hi', Sem.run_pure]
          · cases h
        · cases h
      · cases h
  · cases h
end Go.Sx
/-
  The quiet operations, all.
-/
namespace Go.Sx
open Go

def fieldAddrQ (P : Program) (s : TypeId) (x : SV) (fi : Nat) : Option QR :=
  match x with
  | .ptr h o => match P.underlying s with
    | some (.struct fs) => match fs[fi]? with
      | some fd => match P.info? fd.type with
        | some i => match Nat.blt 0 i.size with
          | true => q0 [] (.ptr h (offAdd o fd.offset))
          | false => none
        | none => none
      | none => none
    | _ => none
  | _ => none
def fieldQ (P : Program) (s : TypeId) (x : SV) (fi : Nat) : Option QR :=
  match x with
  | .agg l => match P.underlying s with
    | some (.struct fs) => match fs[fi]? with
      | some fd => match partV P fd.type l fd.offset with
        | some v => q0 [] v
        | none => none
      | none => none
    | _ => none
  | _ => none
def indexAddrQ (P : Program) (t : TypeId) (x i : SV) : Option QR :=
  match i with
  | .int _ ie => match P.underlying t with
    | some (.slice e) => match P.info? e with
      | some inf => match x with
        | .sl h k off len _ => match Nat.beq k inf.size with
          | true => match offIdx off ie inf.size with
            | some off' => q0 (nonneg ie ++ below .lss ie len) (.ptr h off')
            | none => none
          | false => none
        | _ => none
      | none => none
    | some (.array n e) => match P.info? e with
      | some inf => match x with
        | .ptr h off => match offIdx off ie inf.size with
          | some off' => q0 (nonneg ie ++ below .lss ie (.lit n)) (.ptr h off')
          | none => none
        | _ => none
      | none => none
    | _ => none
  | _ => none
def indexQ (P : Program) (t : TypeId) (x i : SV) : Option QR :=
  match i with
  | .int _ (.lit n) => match P.underlying t with
    | some (.array len e) => match P.info? e with
      | some inf => match x with
        | .agg l => match decide (0 ≤ n), decide (n < (len : Int)) with
          | true, true => match partV P e l (n.toNat * inf.size) with
            | some v => q0 [] v
            | none => none
          | _, _ => none
        | _ => none
      | none => none
    | some .string => match x, decide (0 ≤ n) with
      | .lit (.string s), true => match s[n.toNat]? with
        | some b => q0 [] (.int .u8 (.lit b.toNat))
        | none => none
      | _, _ => none
    | _ => none
  | _ => none
def unQ (op : UnOp) (x : SV) : Option QR :=
  match op with
  | .not => match x with
    | .bool e => q0 [] (.bool (not' e))
    | _ => none
  | .neg => match x with
    | .int k e => q0 [] (.int k (ar' .sub k (.lit 0) e))
    | _ => none
  | .xor => match x with
    | .int k e => q0 [] (.int k (ar' .xor k (.lit (if k.signed then -1 else k.max)) e))
    | _ => none
  | _ => none
def convQ (P : Program) (src dst : TypeId) (x : SV) : Option QR :=
  match x with
  | .int _ e => match P.underlying src, P.underlying dst with
    | some _, some (.int k) => q0 [] (.int k (cv' k e))
    | _, _ => none
  | _ => none
def pickQ (c a b : SV) : Option QR :=
  match c with
  | .bool (.bl true) => q0 [] a
  | .bool (.bl false) => q0 [] b
  | .bool e => match a, b with
    | .bool x, .bool y => q0 [] (.bool (ite' e x y))
    | _, _ => none
  | _ => none
def lenQ (P : Program) (t : TypeId) (x : SV) : Option QR :=
  match P.underlying t with
  | some (.slice _) => match x with
    | .sl _ _ _ len _ => q0 [] (.int .i64 len)
    | .lit (.slice _ n _) => q0 [] (.int .i64 (.lit n))
    | _ => none
  | some .string => match x with
    | .lit (.string s) => q0 [] (.int .i64 (.lit s.size))
    | _ => none
  | some (.array n _) => q0 [] (.int .i64 (.lit n))
  | some (.map ..) => match x with
    | .lit (.map none) => q0 [] (.int .i64 (.lit 0))
    | _ => none
  | _ => none
def min2 : SV → SV → Option SV
  | .int k x, .int _ y => some (.int k (ite' (cmp' .lss y x) y x))
  | _, _ => none
def max2 : SV → SV → Option SV
  | .int k x, .int _ y => some (.int k (ite' (cmp' .lss x y) y x))
  | _, _ => none
def foldQ (f : SV → SV → Option SV) : SV → List SV → Option SV
  | x, [] => some x
  | x, y :: r => match f x y with
    | some z => foldQ f z r
    | none => none

def builtinQ (P : Program) (b : Builtin) (argTypes : Array TypeId) (args : List SV) : Option QR :=
  match b with
  | .len => match argTypes.toList, args with
    | [t], [x] => lenQ P t x
    | _, _ => none
  | .min => match args with
    | x :: r => match foldQ min2 x r with
      | some v => q0 [] v
      | none => none
    | [] => none
  | .max => match args with
    | x :: r => match foldQ max2 x r with
      | some v => q0 [] v
      | none => none
    | [] => none
  | _ => none

/-- a slice held against nil -/
def nilLen (x y : SV) : Option (List E × Bool) :=
  match x, y with
  | .sl _ _ _ _ (some c), .lit (.slice none 0 0) => some (below .lss (.lit 0) c, false)
  | .sl _ _ _ len none, .lit (.slice none 0 0) => some (below .lss (.lit 0) len, false)
  | .lit (.slice (some _) _ _), .lit (.slice none 0 0) => some ([], false)
  | .lit (.slice none 0 0), .sl _ _ _ len _ => some (below .lss (.lit 0) len, false)
  | .lit (.slice none 0 0), .lit (.slice none 0 0) => some ([], true)
  | _, _ => none
def nilCmp (P : Program) (op : BinOp) (t : TypeId) (x y : SV) : Option (List E × SV) :=
  match P.underlying t with
  | some (.slice _) => match op, nilLen x y with
    | .eql, some (a, b) => some (a, .bool (.bl b))
    | .neq, some (a, b) => some (a, .bool (.bl (!b)))
    | _, _ => none
  | _ => none
theorem sliceEq {P : Program} {t e : TypeId} (ht : P.underlying t = some (.slice e)) (D : Nat) (a : Addr) (n m : Nat) (w : World) :
    (Op.equalIn (D + 1) t (.slice (some a) n m) (.slice none 0 0)).run P w = .ok false w ∧ (Op.equalIn (D + 1) t (.slice none 0 0) (.slice (some a) n m)).run P w = .ok false w ∧ (Op.equalIn (D + 1) t (.slice none 0 0) (.slice none 0 0)).run P w = .ok true w := by
  refine ⟨?_, ?_, ?_⟩ <;> simp [Op.equalIn, run_underlying ht]
theorem equal_succ (t : TypeId) (x y : Value) : ∃ D, Op.equal t x y = Op.equalIn (D + 1) t x y := ⟨_, rfl⟩
theorem nilLen_R {P : Program} {ρ : Rho} {t e : TypeId} {x y : SV} {b : Bool} {asr : List E} (ht : P.underlying t = some (.slice e)) (h : nilLen x y = some (asr, b)) (ha : astOk asr) {vx vy : Value} (hx : SV.R ρ x vx) (hy : SV.R ρ y vy) (w : World) :
    (Op.equal t vx vy).run P w = .ok b w ∧ (∃ a n m, vx = .slice a n m) ∧ ∃ a n m, vy = .slice a n m := by
  have key : ∀ (len : E) (oa : Option Addr) (c : Nat) (op : Option Pl) (o : Off) (k : Nat), astOk (below .lss (.lit 0) len) → len.i.toNat ≤ c → (c ≠ 0 → ∃ p, op = some p ∧ oa = some (p.a.add o.n) ∧ o.n + c * k ≤ p.n) → ∃ a, oa = some a := fun len oa c op o k h1 h2 h3 => by
    have := below_ok h1
    have : (0 : Int) < len.i := of_decide_eq_true this
    obtain ⟨p, _, ho, _⟩ := h3 (by omega)
    exact ⟨_, ho⟩
  unfold nilLen at h
  split at h
  · cases h
    simp only [SV.R] at hx hy
    obtain ⟨_, h0, op, oa, c, _, rfl, h2, _, h5, h3⟩ := hx
    subst hy
    obtain ⟨a, rfl⟩ : ∃ a, oa = some a := by
      have h6 := h5 _ rfl
      have h7 : (0 : Int) < E.i _ := of_decide_eq_true (below_ok ha)
      rw [h6] at h7
      obtain ⟨p, _, ho, _⟩ := h3 (by omega)
      exact ⟨_, ho⟩
    obtain ⟨D, hD⟩ := equal_succ t (.slice (some a) _ c) (.slice none 0 0)
    exact ⟨by rw [hD]; exact (sliceEq ht D _ _ _ w).1, ⟨_, _, _, rfl⟩, ⟨_, _, _, rfl⟩⟩
  · cases h
    simp only [SV.R] at hx hy
    obtain ⟨_, h0, op, oa, c, _, rfl, h2, _, _, h3⟩ := hx
    subst hy
    obtain ⟨a, rfl⟩ := key _ oa c op _ _ ha h2 h3
    obtain ⟨D, hD⟩ := equal_succ t (.slice (some a) _ c) (.slice none 0 0)
    exact ⟨by rw [hD]; exact (sliceEq ht D _ _ _ w).1, ⟨_, _, _, rfl⟩, ⟨_, _, _, rfl⟩⟩
  · cases h
    simp only [SV.R] at hx hy
    subst hx; subst hy
    rename_i a n m
    obtain ⟨D, hD⟩ := equal_succ t (.slice (some a) n m) (.slice none 0 0)
    exact ⟨by rw [hD]; exact (sliceEq ht D _ _ _ w).1, ⟨_, _, _, rfl⟩, ⟨_, _, _, rfl⟩⟩
  · cases h
    simp only [SV.R] at hx hy
    obtain ⟨_, h0, op, oa, c, _, rfl, h2, _, _, h3⟩ := hy
    subst hx
    obtain ⟨a, rfl⟩ := key _ oa c op _ _ ha h2 h3
    obtain ⟨D, hD⟩ := equal_succ t (.slice none 0 0) (.slice (some a) _ c)
    exact ⟨by rw [hD]; exact (sliceEq ht D _ _ _ w).2.1, ⟨_, _, _, rfl⟩, ⟨_, _, _, rfl⟩⟩
  · cases h
    simp only [SV.R] at hx hy
    subst hx; subst hy
    obtain ⟨D, hD⟩ := equal_succ t (.slice none 0 0) (.slice none 0 0)
    exact ⟨by rw [hD]; exact (sliceEq ht D ⟨0, 0, none⟩ 0 0 w).2.2, ⟨_, _, _, rfl⟩, ⟨_, _, _, rfl⟩⟩
  · cases h
theorem nilCmp_R {P : Program} {ρ : Rho} {op : BinOp} {t : TypeId} {x y r : SV} {asr : List E} (h : nilCmp P op t x y = some (asr, r)) (ha : astOk asr) {a b : Operand} {vx vy : Value} (hx : SV.R ρ x vx) (hy : SV.R ρ y vy) :
    ∃ v, SV.R ρ r v ∧ ∀ w, ((do eqGuard op t a b vx vy; binOp op t vx vy : Sem Value)).run P w = .ok v w := by
  unfold nilCmp at h
  split at h
  · rename_i e ht
    split at h
    · rename_i as' b' hn
      cases h
      refine ⟨.bool b', by simp only [SV.R, E.b_bl], fun w => ?_⟩
      obtain ⟨h1, ⟨xa, xn, xm, rfl⟩, ⟨ya, yn, ym, rfl⟩⟩ := nilLen_R ht hn ha hx hy w
      rw [eqGuard_at_slice]
      simp [binOp, h1]
    · rename_i as' b' hn
      cases h
      refine ⟨.bool (!b'), by simp only [SV.R, E.b_bl], fun w => ?_⟩
      obtain ⟨h1, ⟨xa, xn, xm, rfl⟩, ⟨ya, yn, ym, rfl⟩⟩ := nilLen_R ht hn ha hx hy w
      rw [eqGuard_at_slice]
      simp [binOp, h1]
    · cases h
  · cases h

def quietOp (P : Program) (H : Heap) (f : Operand → SV) (op : Op) : Option QR :=
  match op with
  | .move x => q0 [] (f x)
  | .assign x => q0 [] (f x)
  | .pick c a b => pickQ (f c) (f a) (f b)
  | .build t parts => match builtS P t (parts.toList.map fun (i, x) => (i, f x)) with
    | some c => q0 [] (.agg c)
    | none => none
  | .load t a => loadQ P H t (f a)
  | .nilCheck x => match f x with
    | .ptr h o => q0 [] (.ptr h o)
    | .fn (.func n) a b => q0 [] (.fn (.func n) a b)
    | _ => none
  | .binOp op t x y _ => match binopV P op t (f x) (f y) with
    | some (a, v) => q0 a v
    | none => match nilCmp P op t (f x) (f y) with
      | some (a, v) => q0 a v
      | none => none
  | .unOp op _ x => unQ op (f x)
  | .convert src dst x => convQ P src dst (f x)
  | .makeFunc fn a b => q0 [] (.fn fn (a.toList.map f) (b.toList.map f))
  | .slice t x lo hi mx => sliceQ P H t (f x) (lo.map f) (hi.map f) (mx.map f)
  | .fieldAddr s x i => fieldAddrQ P s (f x) i
  | .field s x i => fieldQ P s (f x) i
  | .indexAddr t x i => indexAddrQ P t (f x) (f i)
  | .index t x i => indexQ P t (f x) (f i)
  | .extract t i => match f t with
    | .tup l => match l[i]? with
      | some v => q0 [] v
      | none => none
    | _ => none
  | .call c => match c.callee with
    | .builtin b => builtinQ P b c.argTypes (c.args.toList.map f)
    | _ => none
  | _ => none

section
variable {P : Program} {ρ : Rho} {H : Heap} {g : Operand → Value} {o : Oper} {f : Operand → SV} {r : QR} {w : World}

/-- what yields in every world alike -/
theorem qok_pure {v : Value} (hv : SV.R ρ r.v v) (h : ∀ w', (execOp g o).run P w' = .ok (.value v) w') : QOk P ρ g o r w := ⟨v, hv, fun w' _ => h w'⟩

theorem pickQ_ok {c a b : Operand} (hop : o.op = .pick c a b) (hR : RO ρ f g) (h : pickQ (f c) (f a) (f b) = some r) : QOk P ρ g o r w := by
  have hc := hR c
  have ha := hR a
  have hb := hR b
  have ex : ∀ w' (z : Bool), g c = .bool z → (execOp g o).run P w' = .ok (.value (if z = true then g a else g b)) w' := fun w' z hz => by
    unfold execOp; simp only [hop, hz, asBool]; cases z <;> simp
  unfold pickQ at h
  split at h
  · rename_i hf
    rw [hf] at hc; simp only [SV.R] at hc
    cases h
    exact qok_pure ha fun w' => by rw [ex w' _ hc]; rfl
  · rename_i hf
    rw [hf] at hc; simp only [SV.R] at hc
    cases h
    exact qok_pure hb fun w' => by rw [ex w' _ hc]; rfl
  · rename_i e _ _ hf
    rw [hf] at hc; simp only [SV.R] at hc
    split at h
    · rename_i x y hx hy
      rw [hx] at ha; rw [hy] at hb
      simp only [SV.R] at ha hb
      cases h
      refine qok_pure (v := if e.b = true then g a else g b) ?_ fun w' => ex w' _ hc
      simp only [SV.R, ite'_b, ha, hb]
      split <;> rfl
    · cases h
  · cases h

theorem fieldAddrQ_ok {s : TypeId} {x : Operand} {i : Nat} (hop : o.op = .fieldAddr s x i) (hR : RO ρ f g) (h : fieldAddrQ P s (f x) i = some r) : QOk P ρ g o r w := by
  have hx := hR x
  unfold fieldAddrQ at h
  split at h
  · rename_i hd off hf
    rw [hf] at hx
    split at h
    · rename_i fs hu
      split at h
      · rename_i fd hfd
        split at h
        · rename_i inf hinf
          split at h
          · rename_i hs
            cases h
            simp only [SV.R] at hx
            obtain ⟨hpos, p, hp, hgx⟩ := hx
            have hs : inf.size ≠ 0 := by
              intro e; rw [e] at hs; cases hs
            refine qok_pure (v := .pointer (some ((p.a.add off.n).add fd.offset))) ?_ fun w' => ?_
            · simp only [SV.R, offAdd_n]
              exact ⟨by cases off <;> exact hpos, p, hp, by rw [Addr.add_add']⟩
            · unfold execOp
              simp only [hop, hgx, Instr.fieldAt, Sem.run_bind, run_underlying hu, Result.andThen_ok, hfd, Instr.sureAddr, Sem.run_pure, fieldPlace, run_size hinf, hs, if_false]
          · cases h
        · cases h
      · cases h
    · cases h
  · cases h

theorem fieldQ_ok {s : TypeId} {x : Operand} {i : Nat} (hop : o.op = .field s x i) (hR : RO ρ f g) (h : fieldQ P s (f x) i = some r) : QOk P ρ g o r w := by
  have hx := hR x
  unfold fieldQ at h
  split at h
  · rename_i l hf
    rw [hf] at hx
    split at h
    · rename_i fs hu
      split at h
      · rename_i fd hfd
        split at h
        · rename_i v hv
          cases h
          simp only [SV.R] at hx
          obtain ⟨cs, hgx, hcs⟩ := hx
          obtain ⟨u, hu1, hu2⟩ := partV_R hv hcs
          refine qok_pure hu1 fun w' => ?_
          unfold execOp
          simp only [hop, hgx, Instr.field, Sem.run_bind, run_underlying hu, Result.andThen_ok, hfd, asAgg, Sem.run_pure, hu2]
        · cases h
      · cases h
    · cases h
  · cases h

theorem indexAddrQ_ok {t : TypeId} {x i : Operand} (hop : o.op = .indexAddr t x i) (hR : RO ρ f g) (h : indexAddrQ P t (f x) (f i) = some r) (ha : astOk r.ast) : QOk P ρ g o r w := by
  have hx := hR x
  have hi := hR i
  unfold indexAddrQ at h
  split at h
  · rename_i ki ie hfi
    rw [hfi] at hi
    simp only [SV.R] at hi
    split at h
    · rename_i e hu
      split at h
      · rename_i inf hinf
        split at h
        · rename_i hd k off len cap hfx
          rw [hfx] at hx
          split at h
          · rename_i hk
            have hk := Nat.eq_of_beq_eq_true hk
            subst hk
            split at h
            · rename_i off' hoff
              cases h
              obtain ⟨a1, a2⟩ := astOk_app ha
              have b1 := nonneg_ok a1
              have b2 : ie.i < len.i := of_decide_eq_true (below_ok a2)
              simp only [SV.R] at hx
              obtain ⟨hpos, h0, op, oa, c, hp, hgx, hlc, hcm, hcap, hadr⟩ := hx
              obtain ⟨p, rfl, rfl, _⟩ := hadr (by omega)
              obtain ⟨o1, o2⟩ := offIdx_n hoff b1 hpos
              refine qok_pure (v := .pointer (some ((p.a.add off.n).add (ie.i.toNat * inf.size)))) ?_ fun w' => ?_
              · simp only [SV.R]
                exact ⟨o2, p, hp, by rw [o1, Addr.add_add']⟩
              · unfold execOp
                simp only [hop, hgx, hi, Instr.indexAt, asIntOf, Sem.run_bind, Sem.run_pure, run_underlying hu, Result.andThen_ok]
                simp only [show (0 ≤ ie.i ∧ ie.i < ((len.i.toNat : Nat) : Int)) by omega, and_self, if_true, Sem.run_bind, run_size hinf, Result.andThen_ok, Sem.run_pure]
            · cases h
          · cases h
        · cases h
      · cases h
    · rename_i n e hu
      split at h
      · rename_i inf hinf
        split at h
        · rename_i hd off hfx
          rw [hfx] at hx
          split at h
          · rename_i off' hoff
            cases h
            obtain ⟨a1, a2⟩ := astOk_app ha
            have b1 := nonneg_ok a1
            have b2 : ie.i < (n : Int) := of_decide_eq_true (below_ok a2)
            simp only [SV.R] at hx
            obtain ⟨hpos, p, hp, hgx⟩ := hx
            obtain ⟨o1, o2⟩ := offIdx_n hoff b1 hpos
            refine qok_pure (v := .pointer (some ((p.a.add off.n).add (ie.i.toNat * inf.size)))) ?_ fun w' => ?_
            · simp only [SV.R]
              exact ⟨o2, p, hp, by rw [o1, Addr.add_add']⟩
            · unfold execOp
              simp only [hop, hgx, hi, Instr.indexAt, asIntOf, Instr.sureAddr, Sem.run_bind, Sem.run_pure, run_underlying hu, Result.andThen_ok]
              simp only [show (0 ≤ ie.i ∧ ie.i < (n : Int)) from ⟨b1, b2⟩, and_self, if_true, Sem.run_bind, run_size hinf, Result.andThen_ok, Sem.run_pure]
          · cases h
        · cases h
      · cases h
    · cases h
  · cases h

theorem indexQ_ok {t : TypeId} {x i : Operand} (hop : o.op = .index t x i) (hR : RO ρ f g) (h : indexQ P t (f x) (f i) = some r) : QOk P ρ g o r w := by
  have hx := hR x
  have hi := hR i
  unfold indexQ at h
  split at h
  · rename_i ki n hfi
    rw [hfi] at hi
    simp only [SV.R, E.i_lit] at hi
    split at h
    · rename_i len e hu
      split at h
      · rename_i inf hinf
        split at h
        · rename_i l hfx
          rw [hfx] at hx
          split at h
          · rename_i h1 h2
            have h1 := of_decide_eq_true h1
            have h2 := of_decide_eq_true h2
            split at h
            · rename_i v hv
              cases h
              simp only [SV.R] at hx
              obtain ⟨cs, hgx, hcs⟩ := hx
              obtain ⟨u, hu1, hu2⟩ := partV_R hv hcs
              refine qok_pure hu1 fun w' => ?_
              unfold execOp
              simp only [hop, hgx, hi, Instr.index, asIntOf, Sem.run_bind, Sem.run_pure, run_underlying hu, Result.andThen_ok]
              simp only [h1, h2, and_self, if_true, Sem.run_bind, run_size hinf, Result.andThen_ok, hu2]
            · cases h
          · cases h
        · cases h
      · cases h
    · rename_i hu
      split at h
      · rename_i s hfx h1
        rw [hfx] at hx
        have h1 := of_decide_eq_true h1
        split at h
        · rename_i b hb
          cases h
          simp only [SV.R] at hx
          refine qok_pure (v := .int .u8 b.toNat) (by simp only [SV.R, E.i_lit]) fun w' => ?_
          unfold execOp
          simp only [hop, hx, hi, Instr.index, asIntOf, Sem.run_bind, Sem.run_pure, run_underlying hu, Result.andThen_ok]
          simp only [h1, if_true, hb, Sem.run_pure, Result.andThen_ok]
        · cases h
      · cases h
    · cases h
  · cases h

theorem unQ_ok {op : UnOp} {t : TypeId} {x : Operand} (hop : o.op = .unOp op t x) (hR : RO ρ f g) (h : unQ op (f x) = some r) : QOk P ρ g o r w := by
  have hx := hR x
  unfold unQ at h
  split at h
  · split at h
    · rename_i e hf
      rw [hf] at hx; simp only [SV.R] at hx
      cases h
      refine qok_pure (by simp only [SV.R]; rfl) fun w' => ?_
      unfold execOp
      simp [hop, hx, Op.unary]
    · cases h
  · split at h
    · rename_i k e hf
      rw [hf] at hx; simp only [SV.R] at hx
      cases h
      refine qok_pure (by simp only [SV.R]; rfl) fun w' => ?_
      unfold execOp
      simp [hop, hx, Op.unary, Op.intArith, arD]
    · cases h
  · split at h
    · rename_i k e hf
      rw [hf] at hx; simp only [SV.R] at hx
      cases h
      refine qok_pure (by simp only [SV.R]; rfl) fun w' => ?_
      unfold execOp
      simp [hop, hx, Op.unary, Op.intBits, arD]
    · cases h
  · cases h

theorem convQ_ok {src dst : TypeId} {x : Operand} (hop : o.op = .convert src dst x) (hR : RO ρ f g) (h : convQ P src dst (f x) = some r) : QOk P ρ g o r w := by
  have hx := hR x
  unfold convQ at h
  split at h
  · rename_i k0 e hf
    rw [hf] at hx; simp only [SV.R] at hx
    split at h
    · rename_i d k hs hd
      cases h
      refine qok_pure (by simp only [SV.R]; rfl) fun w' => ?_
      unfold execOp
      simp [hop, hx, convert, run_underlying hs, run_underlying hd, Conv.intToInt]
    · cases h
  · cases h

theorem exec_builtin {b : Builtin} {c : Call} (hop : o.op = .call c) (hc : c.callee = .builtin b) : execOp g o = builtin b c.argTypes o.type (c.args.map fun | .const _ => true | _ => false) (c.args.map g) := by
  unfold execOp
  simp only [hop, resolve, hc]
  rfl

theorem foldQ_ok {fs : SV → SV → Option SV} {fv : Value → Value → Sem Value} (hf : ∀ {x y z vx vy}, fs x y = some z → SV.R ρ x vx → SV.R ρ y vy → ∃ v, SV.R ρ z v ∧ fv vx vy = pure v) :
    ∀ (l : List SV) (r : List Value) (x z : SV) (vx : Value), SV.RL ρ l r → SV.R ρ x vx → foldQ fs x l = some z → ∃ v, SV.R ρ z v ∧ r.foldlM fv vx = pure v
  | [], [], x, z, vx, _, hx, h => by cases h; exact ⟨vx, hx, rfl⟩
  | y :: l, vy :: r, x, z, vx, hl, hx, h => by
    simp only [SV.RL] at hl
    simp only [foldQ] at h
    split at h
    · rename_i u hu
      obtain ⟨v, hv, he⟩ := hf hu hx hl.1
      obtain ⟨v', hv', he'⟩ := foldQ_ok hf l r u z v hl.2 hv h
      exact ⟨v', hv', by simp [List.foldlM_cons, he, he']⟩
    · cases h
  | [], _ :: _, _, _, _, h, _, _ => by simp [SV.RL] at h
  | _ :: _, [], _, _, _, h, _, _ => by simp [SV.RL] at h

theorem lenQ_ok {c : Call} {t : TypeId} (hop : o.op = .call c) (hc : c.callee = .builtin .len) (ht : c.argTypes.toList = [t]) {x : SV} {vx : Value} (hx : SV.R ρ x vx) (hv : (c.args.map g).toList = [vx]) (h : lenQ P t x = some r) : QOk P ρ g o r w := by
  have hv' : c.args.map g = #[vx] := by rw [← Array.toArray_toList (xs := c.args.map g), hv]
  have ht' : c.argTypes = #[t] := by rw [← Array.toArray_toList (xs := c.argTypes), ht]
  have ex : execOp g o = (do pure (.value (← Builtin.len_ #[t] o.type #[vx])) : Sem Next) := by rw [exec_builtin hop hc, hv', ht']; rfl
  unfold lenQ at h
  split at h
  · rename_i e hu
    split at h
    · cases h
      simp only [SV.R] at hx
      obtain ⟨_, h0, op, oa, cc, _, rfl, _⟩ := hx
      refine qok_pure (by simp only [SV.R]; rfl) fun w' => ?_
      rw [ex]
      simp [Builtin.len_, run_underlying hu, goInt]
      omega
    · cases h
      simp only [SV.R] at hx
      subst hx
      refine qok_pure (by simp only [SV.R]; rfl) fun w' => ?_
      rw [ex]
      simp [Builtin.len_, run_underlying hu, goInt]
    · cases h
  · rename_i hu
    split at h
    · cases h
      simp only [SV.R] at hx
      subst hx
      refine qok_pure (by simp only [SV.R]; rfl) fun w' => ?_
      rw [ex]
      simp [Builtin.len_, run_underlying hu, goInt]
    · cases h
  · rename_i n e hu
    cases h
    refine qok_pure (by simp only [SV.R]; rfl) fun w' => ?_
    rw [ex]
    simp [Builtin.len_, run_underlying hu, goInt]
  · rename_i k e hu
    split at h
    · cases h
      simp only [SV.R] at hx
      subst hx
      refine qok_pure (by simp only [SV.R]; rfl) fun w' => ?_
      rw [ex]
      simp [Builtin.len_, run_underlying hu, goInt]
    · cases h
  · cases h

theorem builtinQ_ok {c : Call} {b : Builtin} (hop : o.op = .call c) (hc : c.callee = .builtin b) (hR : RO ρ f g) (h : builtinQ P b c.argTypes (c.args.toList.map f) = some r) : QOk P ρ g o r w := by
  have hargs : SV.RL ρ (c.args.toList.map f) (c.args.map g).toList := by rw [Array.toList_map]; exact RL_map hR _
  unfold builtinQ at h
  split at h
  · split at h
    · rename_i t x ht hx
      rw [hx] at hargs
      have hl := RL_length hargs
      match hv : (c.args.map g).toList, hl with
      | [vx], _ =>
        rw [hv] at hargs
        simp only [SV.RL, and_true] at hargs
        exact lenQ_ok hop hc ht hargs hv h
    · cases h
  · split at h
    · rename_i x l hx
      split at h
      · rename_i z hz
        cases h
        rw [hx] at hargs
        match hv : (c.args.map g).toList with
        | [] => rw [hv] at hargs; simp [SV.RL] at hargs
        | vx :: vr =>
          rw [hv] at hargs
          simp only [SV.RL] at hargs
          obtain ⟨v, hv1, hv2⟩ := foldQ_ok (fv := Builtin.min2) (fun {x y z vx vy} h hx hy => by
            unfold min2 at h
            split at h
            · cases h
              simp only [SV.R] at hx hy
              subst hx; subst hy
              refine ⟨_, (by simp only [SV.R]; rfl), ?_⟩
              simp [Builtin.min2, cmpD]
            · cases h) l vr x z vx hargs.2 hargs.1 hz
          refine qok_pure hv1 fun w' => ?_
          rw [exec_builtin hop hc]
          have hv3 : List.map g c.args.toList = vx :: vr := by rw [← Array.toList_map]; exact hv
          simp [builtin, Builtin.min_, hv3, hv2]
      · cases h
    · cases h
  · split at h
    · rename_i x l hx
      split at h
      · rename_i z hz
        cases h
        rw [hx] at hargs
        match hv : (c.args.map g).toList with
        | [] => rw [hv] at hargs; simp [SV.RL] at hargs
        | vx :: vr =>
          rw [hv] at hargs
          simp only [SV.RL] at hargs
          obtain ⟨v, hv1, hv2⟩ := foldQ_ok (fv := Builtin.max2) (fun {x y z vx vy} h hx hy => by
            unfold max2 at h
            split at h
            · cases h
              simp only [SV.R] at hx hy
              subst hx; subst hy
              refine ⟨_, (by simp only [SV.R]; rfl), ?_⟩
              simp [Builtin.max2, cmpD]
            · cases h) l vr x z vx hargs.2 hargs.1 hz
          refine qok_pure hv1 fun w' => ?_
          rw [exec_builtin hop hc]
          have hv3 : List.map g c.args.toList = vx :: vr := by rw [← Array.toList_map]; exact hv
          simp [builtin, Builtin.max_, hv3, hv2]
      · cases h
    · cases h
  · cases h

theorem quietOp_ok (hR : RO ρ f g) (hobj : ∀ h own ob, hfind H h = some (own, ob) → ∃ op, ρ h = some op ∧ ob.R ρ w op) (h : quietOp P H f o.op = some r) (ha : astOk r.ast) : QOk P ρ g o r w := by
  unfold quietOp at h
  split at h
  · rename_i x hop
    cases h
    exact qok_pure (hR x) fun w' => by unfold execOp; simp [hop]
  · rename_i x hop
    cases h
    exact qok_pure (hR x) fun w' => by unfold execOp; simp [hop]
  · rename_i c a b hop
    exact pickQ_ok hop hR h
  · rename_i t parts hop
    split at h
    · rename_i c hb
      cases h
      obtain ⟨vc, h1, h2⟩ := builtS_R hb (partsR_map hR _)
      refine qok_pure (v := .agg vc) (by simp only [SV.R]; exact ⟨_, rfl, h2⟩) fun w' => ?_
      unfold execOp
      simp only [hop, Sem.run_bind]
      rw [run_build w' t _ vc (by rw [Array.toList_map]; exact h1)]
      rfl
    · cases h
  · rename_i t a hop
    exact loadQ_ok hop hR hobj h ha
  · rename_i x hop
    have hx := hR x
    split at h
    · rename_i hd off hf
      rw [hf] at hx
      cases h
      refine qok_pure hx fun w' => ?_
      simp only [SV.R] at hx
      obtain ⟨_, p, _, hgx⟩ := hx
      unfold execOp
      simp [hop, hgx]
    · rename_i n a b hf
      rw [hf] at hx
      cases h
      refine qok_pure hx fun w' => ?_
      simp only [SV.R] at hx
      obtain ⟨_, _, hgx, _⟩ := hx
      unfold execOp
      simp [hop, hgx]
    · cases h
  · rename_i op t x y yt hop
    split at h
    · rename_i a v hb
      cases h
      obtain ⟨u, h1, h2⟩ := binopV_R (a := x) (b := y) hb ha (hR x) (hR y)
      refine qok_pure h1 fun w' => ?_
      have h2 := h2 w'
      unfold execOp
      simp only [hop, Sem.run_bind, Sem.run_pure] at h2 ⊢
      simp only [h2, Result.andThen_ok]
    · split at h
      · rename_i a v hb
        cases h
        obtain ⟨u, h1, h2⟩ := nilCmp_R (a := x) (b := y) hb ha (hR x) (hR y)
        refine qok_pure h1 fun w' => ?_
        have h2 := h2 w'
        unfold execOp
        simp only [hop, Sem.run_bind, Sem.run_pure] at h2 ⊢
        simp only [h2, Result.andThen_ok]
      · cases h
  · rename_i op t x hop
    exact unQ_ok hop hR h
  · rename_i src dst x hop
    exact convQ_ok hop hR h
  · rename_i fn a b hop
    cases h
    refine qok_pure (v := .func fn (a.map g) (b.map g)) ?_ fun w' => ?_
    · simp only [SV.R]
      exact ⟨_, _, rfl, by rw [Array.toList_map]; exact RL_map hR _, by rw [Array.toList_map]; exact RL_map hR _⟩
    · unfold execOp
      simp [hop, Instr.makeFunc]
  · rename_i t x lo hi mx hop
    exact sliceQ_ok hop hR hobj h ha
  · rename_i s x i hop
    exact fieldAddrQ_ok hop hR h
  · rename_i s x i hop
    exact fieldQ_ok hop hR h
  · rename_i t x i hop
    exact indexAddrQ_ok hop hR h ha
  · rename_i t x i hop
    exact indexQ_ok hop hR h
  · rename_i t i hop
    have hx := hR t
    split at h
    · rename_i l hf
      rw [hf] at hx
      split at h
      · rename_i v hv
        cases h
        simp only [SV.R] at hx
        obtain ⟨vs, hgx, hvs⟩ := hx
        obtain ⟨u, hu1, hu2⟩ := RL_get hvs i v hv
        refine qok_pure hu2 fun w' => ?_
        unfold execOp
        have hu1' : vs[i]? = some u := by simpa using hu1
        simp [hop, hgx, Instr.extract, hu1']
      · cases h
    · cases h
  · rename_i c hop
    split at h
    · rename_i b hc
      exact builtinQ_ok hop hc hR h
    · cases h
  · cases h
end

end Go.Sx
