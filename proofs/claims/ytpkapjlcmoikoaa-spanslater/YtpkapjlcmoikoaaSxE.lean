import Derived.Test.YtpkapjlcmoikoaaSxD
set_option linter.all false
/-
  Quiet operations: they leave the heap as it is.
-/
namespace Go.Sx
open Go

structure QR where
  ast : List E
  v : SV
  rd : Option Nat

/-- in whatever world in which the block that was read is as it is here, the operation yields that value and turns nothing -/
def QOk (P : Program) (ρ : Rho) (g : Operand → Value) (o : Oper) (r : QR) (w : World) : Prop :=
  ∃ v, SV.R ρ r.v v ∧ ∀ w', (∀ h p, r.rd = some h → ρ h = some (some p) → w'.heap[p.a.block]? = w.heap[p.a.block]?) → (execOp g o).run P w' = .ok (.value v) w'

def okG (P : Program) (t : TypeId) : SV → Bool
  | .agg _ => !(P.eqGuardType P.depth t)
  | .bool _ | .int .. | .ptr .. | .mp _ | .fn .. => true
  | .lit (.string _) | .lit (.pointer _) | .lit (.map _) | .lit .nilFunc => true
  | _ => false
theorem okG_run {P : Program} {ρ : Rho} {t : TypeId} {x : SV} (h : okG P t x = true) {op : BinOp} {a b : Operand} {vx vy : Value} (hx : SV.R ρ x vx) {y : SV} (hy : SV.R ρ y vy) (hyx : ∀ l, x = .agg l → ∃ m, y = .agg m) (w : World) :
    (eqGuard op t a b vx vy).run P w = .ok () w := by
  cases x with
  | agg l =>
    obtain ⟨m, rfl⟩ := hyx l rfl
    simp only [SV.R] at hx hy
    obtain ⟨xs, rfl, _⟩ := hx
    obtain ⟨ys, rfl, _⟩ := hy
    exact run_eqGuard_agg w op t a b xs ys (by simpa [okG] using h)
  | bool e => simp only [SV.R] at hx; subst hx; rw [eqGuard_at_bool]; rfl
  | int k e => simp only [SV.R] at hx; subst hx; rw [eqGuard_at_int]; rfl
  | ptr g o => simp only [SV.R] at hx; obtain ⟨_, p, _, rfl⟩ := hx; rw [eqGuard_at_pointer]; rfl
  | mp g => simp only [SV.R] at hx; obtain ⟨p, _, _, _, rfl⟩ := hx; rw [eqGuard_at_map]; rfl
  | fn f p q => simp only [SV.R] at hx; obtain ⟨_, _, rfl, _⟩ := hx; rw [eqGuard_at_func]; rfl
  | lit v =>
    simp only [SV.R] at hx; subst hx
    cases vx <;> simp [okG] at h
    · rw [eqGuard_at_string]; rfl
    · rw [eqGuard_at_pointer]; rfl
    · rw [eqGuard_at_map]; rfl
    · rw [eqGuard_at_nilFunc]; rfl
  | _ => simp [okG] at h

def sameAgg : SV → SV → Bool
  | .agg _, .agg _ => true
  | .agg _, _ => false
  | _, _ => true
def binopV (P : Program) (op : BinOp) (t : TypeId) (x y : SV) : Option (List E × SV) :=
  match op with
  | .eql => match eqV P 20 t x y, okG P t x, sameAgg x y with
    | some e, true, true => some ([], .bool e)
    | _, _, _ => none
  | .neq => match eqV P 20 t x y, okG P t x, sameAgg x y with
    | some e, true, true => some ([], .bool (not' e))
    | _, _, _ => none
  | .shl => match x, y with
    | .int k a, .int _ b => some ([cmp' .leq (.lit 0) b], .int k (ar' .shl k a b))
    | _, _ => none
  | .shr => match x, y with
    | .int k a, .int _ b => some ([cmp' .leq (.lit 0) b], .int k (ar' .shr k a b))
    | _, _ => none
  | op => match x, y with
    | .int k a, .int k' b => match decide (k = k') with
      | true => match op with
        | .lss | .leq | .gtr | .geq => some ([], .bool (cmp' op a b))
        | .quo | .rem => some ([cmp' .neq b (.lit 0)], .int k (ar' op k a b))
        | .add | .sub | .mul | .and | .or | .xor | .andNot => some ([], .int k (ar' op k a b))
        | _ => none
      | false => none
    | _, _ => none

theorem sameAgg_spec {x y : SV} (h : sameAgg x y = true) : ∀ l, x = .agg l → ∃ m, y = .agg m := by
  intro l e
  subst e
  cases y <;> simp [sameAgg] at h
  exact ⟨_, rfl⟩

def pmf : Value → Bool
  | .pointer _ | .map _ | .func .. | .nilFunc => true
  | _ => false
theorem scalarEq_cases {td : TypeDesc} {x y : SV} {e : E} (h : scalarEq td x y = some e) :
    (∃ a b, x = .bool a ∧ y = .bool b) ∨ (∃ k a b, x = .int k a ∧ y = .int k b ∧ e = cmp' .eql a b) ∨
    (∃ a b, x = .lit (.string a) ∧ y = .lit (.string b) ∧ e = .bl (a.toList == b.toList)) ∨
    (∀ (ρ : Rho) vx vy, SV.R ρ x vx → SV.R ρ y vy → pmf vx = true ∧ pmf vy = true) := by
  have hp : ∀ {ρ : Rho} {g o v}, SV.R ρ (.ptr g o) v → pmf v = true := fun h => by
    simp only [SV.R] at h; obtain ⟨_, p, _, rfl⟩ := h; rfl
  have hm : ∀ {ρ : Rho} {g v}, SV.R ρ (.mp g) v → pmf v = true := fun h => by
    simp only [SV.R] at h; obtain ⟨p, _, _, _, rfl⟩ := h; rfl
  have hf : ∀ {ρ : Rho} {f a b v}, SV.R ρ (.fn f a b) v → pmf v = true := fun h => by
    simp only [SV.R] at h; obtain ⟨_, _, rfl, _⟩ := h; rfl
  have hl : ∀ {ρ : Rho} {u v}, SV.R ρ (.lit u) v → pmf u = true → pmf v = true := fun h k => by
    simp only [SV.R] at h; subst h; exact k
  unfold scalarEq at h
  split at h
  · split at h
    · exact .inl ⟨_, _, rfl, rfl⟩
    · cases h
  · split at h
    · split at h
      · rename_i hk
        have hk := of_decide_eq_true hk
        subst hk
        cases h
        exact .inr (.inl ⟨_, _, _, rfl, rfl, rfl⟩)
      · cases h
    · cases h
  · split at h
    · cases h; exact .inr (.inr (.inl ⟨_, _, rfl, rfl, rfl⟩))
    · cases h
  · refine .inr (.inr (.inr fun ρ vx vy h1 h2 => ?_))
    split at h
    · exact ⟨hl h1 rfl, hl h2 rfl⟩
    · exact ⟨hp h1, hl h2 rfl⟩
    · exact ⟨hl h1 rfl, hp h2⟩
    · cases h
  · refine .inr (.inr (.inr fun ρ vx vy h1 h2 => ?_))
    split at h
    · exact ⟨hl h1 rfl, hl h2 rfl⟩
    · exact ⟨hm h1, hl h2 rfl⟩
    · exact ⟨hl h1 rfl, hm h2⟩
    · cases h
  · refine .inr (.inr (.inr fun ρ vx vy h1 h2 => ?_))
    split at h
    · exact ⟨hl h1 rfl, hl h2 rfl⟩
    · exact ⟨hf h1, hl h2 rfl⟩
    · exact ⟨hl h1 rfl, hf h2⟩
    · cases h
  · cases h
theorem eqV_cases {P : Program} {d : Nat} {t : TypeId} {x y : SV} {e : E} (h : eqV P (d + 1) t x y = some e) :
    (∃ xs ys, x = .agg xs ∧ y = .agg ys) ∨ ∃ td, P.underlying t = some td ∧ scalarEq td x y = some e := by
  simp only [eqV] at h
  split at h
  · cases h
  · split at h
    · exact .inl ⟨_, _, rfl, rfl⟩
    · cases h
  · split at h
    · exact .inl ⟨_, _, rfl, rfl⟩
    · cases h
  · rename_i ht; exact .inr ⟨_, ht, h⟩

theorem binop_eql (t : TypeId) (x y : SV) {ρ : Rho} {P : Program} {e : E} (he : eqV P 20 t x y = some e) {vx vy : Value} (hx : SV.R ρ x vx) (hy : SV.R ρ y vy) (w : World) :
    (binOp .eql t vx vy).run P w = .ok (.bool e.b) w ∧ (binOp .neq t vx vy).run P w = .ok (.bool (!e.b)) w := by
  have h := eqV_R 20 t x y e he Op.maxDepth (by simp [Op.maxDepth]) vx vy hx hy w
  have gen : (binOp .eql t vx vy = do pure (.bool (← Op.equal t vx vy))) → (binOp .neq t vx vy = do pure (.bool (!(← Op.equal t vx vy)))) → (binOp .eql t vx vy).run P w = .ok (.bool e.b) w ∧ (binOp .neq t vx vy).run P w = .ok (.bool (!e.b)) w := fun g1 g2 => by
    rw [g1, g2]
    simp only [Op.equal, Sem.run_bind, h, Result.andThen_ok, Sem.run_pure, and_self]
  rcases eqV_cases he with ⟨xs, ys, rfl, rfl⟩ | ⟨td, ht, hs⟩
  · simp only [SV.R] at hx hy
    obtain ⟨_, rfl, _⟩ := hx
    obtain ⟨_, rfl, _⟩ := hy
    exact gen rfl rfl
  · rcases scalarEq_cases hs with ⟨a, b, rfl, rfl⟩ | ⟨k, a, b, rfl, rfl, rfl⟩ | ⟨a, b, rfl, rfl, rfl⟩ | H
    · simp only [SV.R] at hx hy
      subst hx; subst hy
      exact gen rfl rfl
    · simp only [SV.R] at hx hy
      subst hx; subst hy
      rw [binOp_eql, binOp_neq]
      simp only [Sem.run_pure, cmp'_b, cmpD, bne, and_self]
    · simp only [SV.R] at hx hy
      subst hx; subst hy
      simp only [binOp, Op.stringOp, Sem.run_pure, E.b_bl, and_self]
    · obtain ⟨h1, h2⟩ := H ρ vx vy hx hy
      cases vx <;> simp [pmf] at h1 <;> cases vy <;> simp [pmf] at h2 <;> exact gen rfl rfl

theorem binopV_R {P : Program} {ρ : Rho} {op : BinOp} {t : TypeId} {x y r : SV} {asr : List E} (h : binopV P op t x y = some (asr, r)) (ha : astOk asr) {a b : Operand} {vx vy : Value} (hx : SV.R ρ x vx) (hy : SV.R ρ y vy) :
    ∃ v, SV.R ρ r v ∧ ∀ w, ((do eqGuard op t a b vx vy; binOp op t vx vy : Sem Value)).run P w = .ok v w := by
  have hg : ∀ w, op ≠ .eql → op ≠ .neq → (eqGuard op t a b vx vy).run P w = .ok () w := fun w h1 h2 => by
    cases op <;> first | rfl | exact absurd rfl h1 | exact absurd rfl h2
  unfold binopV at h
  split at h
  · split at h
    · rename_i e he hk hs
      cases h
      exact ⟨_, (by simp only [SV.R]; rfl), fun w => by
        simp only [Sem.run_bind, okG_run hk hx hy (sameAgg_spec hs), Result.andThen_ok]
        exact (binop_eql t x y he hx hy w).1⟩
    · cases h
  · split at h
    · rename_i e he hk hs
      cases h
      exact ⟨_, (by simp only [SV.R]; rfl), fun w => by
        simp only [Sem.run_bind, okG_run hk hx hy (sameAgg_spec hs), Result.andThen_ok, not'_b]
        exact (binop_eql t x y he hx hy w).2⟩
    · cases h
  · split at h
    · rename_i k a' k' b'
      cases h
      simp only [SV.R] at hx hy
      subst hx; subst hy
      have h0 : 0 ≤ b'.i := by
        have := ha _ (List.mem_singleton.2 rfl)
        rw [cmp'_b] at this
        exact of_decide_eq_true this
      refine ⟨_, (by simp only [SV.R]; rfl), fun w => ?_⟩
      simp only [Sem.run_bind, hg w (by simp) (by simp), Result.andThen_ok, binOp_shl, Op.shift]
      rw [if_neg (by omega)]
      simp [arD]
    · cases h
  · split at h
    · rename_i k a' k' b'
      cases h
      simp only [SV.R] at hx hy
      subst hx; subst hy
      have h0 : 0 ≤ b'.i := by
        have := ha _ (List.mem_singleton.2 rfl)
        rw [cmp'_b] at this
        exact of_decide_eq_true this
      refine ⟨_, (by simp only [SV.R]; rfl), fun w => ?_⟩
      simp only [Sem.run_bind, hg w (by simp) (by simp), Result.andThen_ok, binOp_shr, Op.shift]
      rw [if_neg (by omega)]
      simp [arD]
    · cases h
  · rename_i o1 o2 o3 o4
    split at h
    · rename_i k a' k' b'
      split at h
      · rename_i hk
        have hk := of_decide_eq_true hk
        subst hk
        simp only [SV.R] at hx hy
        subst hx; subst hy
        have hg' := fun w => hg w o1 o2
        cases op <;> simp only at h <;> cases h
        all_goals (refine ⟨_, (by simp only [SV.R]; rfl), fun w => ?_⟩; simp only [Sem.run_bind, hg' w, Result.andThen_ok])
        · simp [Op.intArith, binOp_add, arD]
        · simp [Op.intArith, binOp_sub, arD]
        · simp [Op.intArith, binOp_mul, arD]
        · have h0 : b'.i ≠ 0 := by
            have := ha _ (List.mem_singleton.2 rfl)
            rw [cmp'_b] at this
            simpa [cmpD] using this
          simp [Op.intDiv, binOp_quo, arD, h0]
        · have h0 : b'.i ≠ 0 := by
            have := ha _ (List.mem_singleton.2 rfl)
            rw [cmp'_b] at this
            simpa [cmpD] using this
          simp [Op.intDiv, binOp_rem, arD, h0]
        · simp [Op.intBits, binOp_and, arD]
        · simp [Op.intBits, binOp_or, arD]
        · simp [Op.intBits, binOp_xor, arD]
        · simp [Op.intBits, binOp_andNot, arD]
        · simp [binOp_lss, cmpD]
        · simp [binOp_leq, cmpD]
        · simp [binOp_gtr, cmpD]
        · simp [binOp_geq, cmpD]
      · cases h
    · cases h


/-! ### the quiet operations -/
def q0 (a : List E) (v : SV) : Option QR := some ⟨a, v, none⟩

def loadQ (P : Program) (H : Heap) (t : TypeId) (x : SV) : Option QR :=
  match x with
  | .ptr h o => match hfind H h with
    | none => none
    | some (_, ob) => match P.underlying t with
      | none => none
      | some d => match isAggD d with
        | true => match P.info? t with
          | none => none
          | some i => match ob.gets o i.size with
            | some (a, vs) => some ⟨a, .agg vs, some h⟩
            | none => none
        | false => match ob.gets o 1 with
          | some (a, [v]) => some ⟨a, v, some h⟩
          | _ => none
  | _ => none

/-- 0 ≤ i, where it is not seen -/
def nonneg (i : E) : List E :=
  match cmp' .leq (.lit 0) i with
  | .bl true => []
  | e => [e]
def below (op : BinOp) (i n : E) : List E :=
  match cmp' op i n with
  | .bl true => []
  | e => [e]
theorem nonneg_ok {i : E} (h : astOk (nonneg i)) : 0 ≤ i.i := by
  unfold nonneg at h
  have e := cmp'_b .leq (.lit 0) i
  split at h
  · rename_i hc; rw [hc] at e; exact of_decide_eq_true e.symm
  · have := h _ (List.mem_singleton.2 rfl); rw [e] at this; exact of_decide_eq_true this
theorem below_ok {op : BinOp} {i n : E} (h : astOk (below op i n)) : cmpD op i.i n.i = true := by
  unfold below at h
  have e := cmp'_b op i n
  split at h
  · rename_i hc; rw [hc] at e; exact e.symm
  · have := h _ (List.mem_singleton.2 rfl); rw [e] at this; exact this
theorem astOk_app {a b : List E} (h : astOk (a ++ b)) : astOk a ∧ astOk b :=
  ⟨fun e he => h e (List.mem_append.2 (.inl he)), fun e he => h e (List.mem_append.2 (.inr he))⟩

theorem loadQ_ok {P : Program} {ρ : Rho} {H : Heap} {g : Operand → Value} {o : Oper} {t : TypeId} {x : Operand} {f : Operand → SV} {r : QR} {w : World} (hop : o.op = .load t x) (hR : RO ρ f g)
    (hobj : ∀ h own ob, hfind H h = some (own, ob) → ∃ op, ρ h = some op ∧ ob.R ρ w op) (h : loadQ P H t (f x) = some r) (ha : astOk r.ast) : QOk P ρ g o r w := by
  have hx := hR x
  unfold loadQ at h
  split at h
  · rename_i hd off hfx
    rw [hfx] at hx
    simp only [SV.R] at hx
    obtain ⟨hpos, p, hp, hgx⟩ := hx
    split at h
    · cases h
    · rename_i own ob hf
      obtain ⟨op, hop', hob⟩ := hobj _ _ _ hf
      rw [hp] at hop'; cases hop'
      split at h
      · cases h
      · rename_i d hund
        split at h
        · rename_i hagg
          split at h
          · cases h
          · rename_i i hi
            split at h
            · rename_i a vs hg
              cases h
              obtain ⟨xs, hl, hc, hrl⟩ := gets_R hob hpos hg ha
              refine ⟨.agg xs.toArray, by simp only [SV.R]; exact ⟨_, rfl, hrl⟩, fun w' hw' => ?_⟩
              have hb := hw' hd p rfl hp
              have hc' : ∀ j v, xs[j]? = some v → w'.cell? ((p.a.add off.n).add j) = some v := fun j v hj => by
                rw [cell_of_block (w := w) (by rw [Addr.add_block, Addr.add_block]; exact hb)]
                exact (hc j v hj).1
              have hrun := run_loadCells_list (P := P) w' (p.a.add off.n) xs hc'
              rw [hl] at hrun
              unfold execOp
              simp only [hop, hgx, Instr.loadAt, Instr.sureAddr, loadVar, Sem.run_bind, Sem.run_pure, Result.andThen_ok, run_isAgg hund, hagg, if_true, run_size hi, hrun]
            · cases h
        · rename_i hagg
          split at h
          · rename_i a v hg
            cases h
            obtain ⟨xs, hl, hc, hrl⟩ := gets_R hob hpos hg ha
            match xs, hl with
            | [x0], _ =>
              simp only [SV.RL, and_true] at hrl
              refine ⟨x0, hrl, fun w' hw' => ?_⟩
              have hb := hw' hd p rfl hp
              have hc' : w'.cell? (p.a.add off.n) = some x0 := by
                rw [cell_of_block (w := w) (by rw [Addr.add_block]; exact hb)]
                have := (hc 0 x0 rfl).1
                simpa [Addr.add] using this
              unfold execOp
              simp only [hop, hgx, Instr.loadAt, Instr.sureAddr, loadVar, Sem.run_bind, Sem.run_pure, Result.andThen_ok, run_isAgg hund, hagg, Bool.false_eq_true, if_false, run_load, hc']
          · cases h
  · cases h

end Go.Sx
