import Derived.Test.YtpkapjlcmoikoaaSxG
set_option linter.all false
/-
  The quiet operations, all.
-/
namespace Go.Sx
open Go

def fieldAddrQ (P : Program) (s : TypeId) (x : SV) (fi : Nat) : Option QR :=
  match x with
  | .ptr h o => match P.underlying s with
    | some (.struct fs) => match fs[fi]? with
      | some fd => match P.info? fd.type with
        | some i => match Nat.blt 0 i.size with
          | true => q0 [] (.ptr h (offAdd o fd.offset))
          | false => none
        | none => none
      | none => none
    | _ => none
  | _ => none
def fieldQ (P : Program) (s : TypeId) (x : SV) (fi : Nat) : Option QR :=
  match x with
  | .agg l => match P.underlying s with
    | some (.struct fs) => match fs[fi]? with
      | some fd => match partV P fd.type l fd.offset with
        | some v => q0 [] v
        | none => none
      | none => none
    | _ => none
  | _ => none
def indexAddrQ (P : Program) (t : TypeId) (x i : SV) : Option QR :=
  match i with
  | .int _ ie => match P.underlying t with
    | some (.slice e) => match P.info? e with
      | some inf => match x with
        | .sl h k off len _ => match Nat.beq k inf.size with
          | true => match offIdx off ie inf.size with
            | some off' => q0 (nonneg ie ++ below .lss ie len) (.ptr h off')
            | none => none
          | false => none
        | _ => none
      | none => none
    | some (.array n e) => match P.info? e with
      | some inf => match x with
        | .ptr h off => match offIdx off ie inf.size with
          | some off' => q0 (nonneg ie ++ below .lss ie (.lit n)) (.ptr h off')
          | none => none
        | _ => none
      | none => none
    | _ => none
  | _ => none
def indexQ (P : Program) (t : TypeId) (x i : SV) : Option QR :=
  match i with
  | .int _ (.lit n) => match P.underlying t with
    | some (.array len e) => match P.info? e with
      | some inf => match x with
        | .agg l => match decide (0 ≤ n), decide (n < (len : Int)) with
          | true, true => match partV P e l (n.toNat * inf.size) with
            | some v => q0 [] v
            | none => none
          | _, _ => none
        | _ => none
      | none => none
    | some .string => match x, decide (0 ≤ n) with
      | .lit (.string s), true => match s[n.toNat]? with
        | some b => q0 [] (.int .u8 (.lit b.toNat))
        | none => none
      | _, _ => none
    | _ => none
  | _ => none
def unQ (op : UnOp) (x : SV) : Option QR :=
  match op with
  | .not => match x with
    | .bool e => q0 [] (.bool (not' e))
    | _ => none
  | .neg => match x with
    | .int k e => q0 [] (.int k (ar' .sub k (.lit 0) e))
    | _ => none
  | .xor => match x with
    | .int k e => q0 [] (.int k (ar' .xor k (.lit (if k.signed then -1 else k.max)) e))
    | _ => none
  | _ => none
def convQ (P : Program) (src dst : TypeId) (x : SV) : Option QR :=
  match x with
  | .int _ e => match P.underlying src, P.underlying dst with
    | some _, some (.int k) => q0 [] (.int k (cv' k e))
    | _, _ => none
  | _ => none
def pickQ (c a b : SV) : Option QR :=
  match c with
  | .bool (.bl true) => q0 [] a
  | .bool (.bl false) => q0 [] b
  | .bool e => match a, b with
    | .bool x, .bool y => q0 [] (.bool (ite' e x y))
    | _, _ => none
  | _ => none
def lenQ (P : Program) (t : TypeId) (x : SV) : Option QR :=
  match P.underlying t with
  | some (.slice _) => match x with
    | .sl _ _ _ len _ => q0 [] (.int .i64 len)
    | .lit (.slice _ n _) => q0 [] (.int .i64 (.lit n))
    | _ => none
  | some .string => match x with
    | .lit (.string s) => q0 [] (.int .i64 (.lit s.size))
    | _ => none
  | some (.array n _) => q0 [] (.int .i64 (.lit n))
  | some (.map ..) => match x with
    | .lit (.map none) => q0 [] (.int .i64 (.lit 0))
    | _ => none
  | _ => none
def min2 : SV → SV → Option SV
  | .int k x, .int _ y => some (.int k (ite' (cmp' .lss y x) y x))
  | _, _ => none
def max2 : SV → SV → Option SV
  | .int k x, .int _ y => some (.int k (ite' (cmp' .lss x y) y x))
  | _, _ => none
def foldQ (f : SV → SV → Option SV) : SV → List SV → Option SV
  | x, [] => some x
  | x, y :: r => match f x y with
    | some z => foldQ f z r
    | none => none

def builtinQ (P : Program) (b : Builtin) (argTypes : Array TypeId) (args : List SV) : Option QR :=
  match b with
  | .len => match argTypes.toList, args with
    | [t], [x] => lenQ P t x
    | _, _ => none
  | .min => match args with
    | x :: r => match foldQ min2 x r with
      | some v => q0 [] v
      | none => none
    | [] => none
  | .max => match args with
    | x :: r => match foldQ max2 x r with
      | some v => q0 [] v
      | none => none
    | [] => none
  | _ => none

/-- a slice held against nil -/
def nilLen (x y : SV) : Option (List E × Bool) :=
  match x, y with
  | .sl _ _ _ len _, .lit (.slice none 0 0) => some (below .lss (.lit 0) len, false)
  | .lit (.slice none 0 0), .sl _ _ _ len _ => some (below .lss (.lit 0) len, false)
  | .lit (.slice none 0 0), .lit (.slice none 0 0) => some ([], true)
  | _, _ => none
def nilCmp (P : Program) (op : BinOp) (t : TypeId) (x y : SV) : Option (List E × SV) :=
  match P.underlying t with
  | some (.slice _) => match op, nilLen x y with
    | .eql, some (a, b) => some (a, .bool (.bl b))
    | .neq, some (a, b) => some (a, .bool (.bl (!b)))
    | _, _ => none
  | _ => none
theorem sliceEq {P : Program} {t e : TypeId} (ht : P.underlying t = some (.slice e)) (D : Nat) (a : Addr) (n m : Nat) (w : World) :
    (Op.equalIn (D + 1) t (.slice (some a) n m) (.slice none 0 0)).run P w = .ok false w ∧ (Op.equalIn (D + 1) t (.slice none 0 0) (.slice (some a) n m)).run P w = .ok false w ∧ (Op.equalIn (D + 1) t (.slice none 0 0) (.slice none 0 0)).run P w = .ok true w := by
  refine ⟨?_, ?_, ?_⟩ <;> simp [Op.equalIn, run_underlying ht]
theorem equal_succ (t : TypeId) (x y : Value) : ∃ D, Op.equal t x y = Op.equalIn (D + 1) t x y := ⟨_, rfl⟩
theorem nilLen_R {P : Program} {ρ : Rho} {t e : TypeId} {x y : SV} {b : Bool} {asr : List E} (ht : P.underlying t = some (.slice e)) (h : nilLen x y = some (asr, b)) (ha : astOk asr) {vx vy : Value} (hx : SV.R ρ x vx) (hy : SV.R ρ y vy) (w : World) :
    (Op.equal t vx vy).run P w = .ok b w ∧ (∃ a n m, vx = .slice a n m) ∧ ∃ a n m, vy = .slice a n m := by
  have key : ∀ (len : E) (oa : Option Addr) (c : Nat) (op : Option Pl) (o : Off) (k : Nat), astOk (below .lss (.lit 0) len) → len.i.toNat ≤ c → (c ≠ 0 → ∃ p, op = some p ∧ oa = some (p.a.add o.n) ∧ o.n + c * k ≤ p.n) → ∃ a, oa = some a := fun len oa c op o k h1 h2 h3 => by
    have := below_ok h1
    have : (0 : Int) < len.i := of_decide_eq_true this
    obtain ⟨p, _, ho, _⟩ := h3 (by omega)
    exact ⟨_, ho⟩
  unfold nilLen at h
  split at h
  · cases h
    simp only [SV.R] at hx hy
    obtain ⟨_, h0, op, oa, c, _, rfl, h2, _, _, h3⟩ := hx
    subst hy
    obtain ⟨a, rfl⟩ := key _ oa c op _ _ ha h2 h3
    obtain ⟨D, hD⟩ := equal_succ t (.slice (some a) _ c) (.slice none 0 0)
    exact ⟨by rw [hD]; exact (sliceEq ht D _ _ _ w).1, ⟨_, _, _, rfl⟩, ⟨_, _, _, rfl⟩⟩
  · cases h
    simp only [SV.R] at hx hy
    obtain ⟨_, h0, op, oa, c, _, rfl, h2, _, _, h3⟩ := hy
    subst hx
    obtain ⟨a, rfl⟩ := key _ oa c op _ _ ha h2 h3
    obtain ⟨D, hD⟩ := equal_succ t (.slice none 0 0) (.slice (some a) _ c)
    exact ⟨by rw [hD]; exact (sliceEq ht D _ _ _ w).2.1, ⟨_, _, _, rfl⟩, ⟨_, _, _, rfl⟩⟩
  · cases h
    simp only [SV.R] at hx hy
    subst hx; subst hy
    obtain ⟨D, hD⟩ := equal_succ t (.slice none 0 0) (.slice none 0 0)
    exact ⟨by rw [hD]; exact (sliceEq ht D ⟨0, 0, none⟩ 0 0 w).2.2, ⟨_, _, _, rfl⟩, ⟨_, _, _, rfl⟩⟩
  · cases h
theorem nilCmp_R {P : Program} {ρ : Rho} {op : BinOp} {t : TypeId} {x y r : SV} {asr : List E} (h : nilCmp P op t x y = some (asr, r)) (ha : astOk asr) {a b : Operand} {vx vy : Value} (hx : SV.R ρ x vx) (hy : SV.R ρ y vy) :
    ∃ v, SV.R ρ r v ∧ ∀ w, ((do eqGuard op t a b vx vy; binOp op t vx vy : Sem Value)).run P w = .ok v w := by
  unfold nilCmp at h
  split at h
  · rename_i e ht
    split at h
    · rename_i as' b' hn
      cases h
      refine ⟨.bool b', by simp only [SV.R, E.b_bl], fun w => ?_⟩
      obtain ⟨h1, ⟨xa, xn, xm, rfl⟩, ⟨ya, yn, ym, rfl⟩⟩ := nilLen_R ht hn ha hx hy w
      rw [eqGuard_at_slice]
      simp [binOp, h1]
    · rename_i as' b' hn
      cases h
      refine ⟨.bool (!b'), by simp only [SV.R, E.b_bl], fun w => ?_⟩
      obtain ⟨h1, ⟨xa, xn, xm, rfl⟩, ⟨ya, yn, ym, rfl⟩⟩ := nilLen_R ht hn ha hx hy w
      rw [eqGuard_at_slice]
      simp [binOp, h1]
    · cases h
  · cases h

def quietOp (P : Program) (H : Heap) (f : Operand → SV) (op : Op) : Option QR :=
  match op with
  | .move x => q0 [] (f x)
  | .assign x => q0 [] (f x)
  | .pick c a b => pickQ (f c) (f a) (f b)
  | .build t parts => match builtS P t (parts.toList.map fun (i, x) => (i, f x)) with
    | some c => q0 [] (.agg c)
    | none => none
  | .load t a => loadQ P H t (f a)
  | .nilCheck x => match f x with
    | .ptr h o => q0 [] (.ptr h o)
    | .fn (.func n) a b => q0 [] (.fn (.func n) a b)
    | _ => none
  | .binOp op t x y _ => match binopV P op t (f x) (f y) with
    | some (a, v) => q0 a v
    | none => match nilCmp P op t (f x) (f y) with
      | some (a, v) => q0 a v
      | none => none
  | .unOp op _ x => unQ op (f x)
  | .convert src dst x => convQ P src dst (f x)
  | .makeFunc fn a b => q0 [] (.fn fn (a.toList.map f) (b.toList.map f))
  | .slice t x lo hi mx => sliceQ P H t (f x) (lo.map f) (hi.map f) (mx.map f)
  | .fieldAddr s x i => fieldAddrQ P s (f x) i
  | .field s x i => fieldQ P s (f x) i
  | .indexAddr t x i => indexAddrQ P t (f x) (f i)
  | .index t x i => indexQ P t (f x) (f i)
  | .extract t i => match f t with
    | .tup l => match l[i]? with
      | some v => q0 [] v
      | none => none
    | _ => none
  | .call c => match c.callee with
    | .builtin b => builtinQ P b c.argTypes (c.args.toList.map f)
    | _ => none
  | _ => none

section
variable {P : Program} {ρ : Rho} {H : Heap} {g : Operand → Value} {o : Oper} {f : Operand → SV} {r : QR} {w : World}

/-- what yields in every world alike -/
theorem qok_pure {v : Value} (hv : SV.R ρ r.v v) (h : ∀ w', (execOp g o).run P w' = .ok (.value v) w') : QOk P ρ g o r w := ⟨v, hv, fun w' _ => h w'⟩

theorem pickQ_ok {c a b : Operand} (hop : o.op = .pick c a b) (hR : RO ρ f g) (h : pickQ (f c) (f a) (f b) = some r) : QOk P ρ g o r w := by
  have hc := hR c
  have ha := hR a
  have hb := hR b
  have ex : ∀ w' (z : Bool), g c = .bool z → (execOp g o).run P w' = .ok (.value (if z = true then g a else g b)) w' := fun w' z hz => by
    unfold execOp; simp only [hop, hz, asBool]; cases z <;> simp
  unfold pickQ at h
  split at h
  · rename_i hf
    rw [hf] at hc; simp only [SV.R] at hc
    cases h
    exact qok_pure ha fun w' => by rw [ex w' _ hc]; rfl
  · rename_i hf
    rw [hf] at hc; simp only [SV.R] at hc
    cases h
    exact qok_pure hb fun w' => by rw [ex w' _ hc]; rfl
  · rename_i e _ _ hf
    rw [hf] at hc; simp only [SV.R] at hc
    split at h
    · rename_i x y hx hy
      rw [hx] at ha; rw [hy] at hb
      simp only [SV.R] at ha hb
      cases h
      refine qok_pure (v := if e.b = true then g a else g b) ?_ fun w' => ex w' _ hc
      simp only [SV.R, ite'_b, ha, hb]
      split <;> rfl
    · cases h
  · cases h

theorem fieldAddrQ_ok {s : TypeId} {x : Operand} {i : Nat} (hop : o.op = .fieldAddr s x i) (hR : RO ρ f g) (h : fieldAddrQ P s (f x) i = some r) : QOk P ρ g o r w := by
  have hx := hR x
  unfold fieldAddrQ at h
  split at h
  · rename_i hd off hf
    rw [hf] at hx
    split at h
    · rename_i fs hu
      split at h
      · rename_i fd hfd
        split at h
        · rename_i inf hinf
          split at h
          · rename_i hs
            cases h
            simp only [SV.R] at hx
            obtain ⟨hpos, p, hp, hgx⟩ := hx
            have hs : inf.size ≠ 0 := by
              intro e; rw [e] at hs; cases hs
            refine qok_pure (v := .pointer (some ((p.a.add off.n).add fd.offset))) ?_ fun w' => ?_
            · simp only [SV.R, offAdd_n]
              exact ⟨by cases off <;> exact hpos, p, hp, by rw [Addr.add_add']⟩
            · unfold execOp
              simp only [hop, hgx, Instr.fieldAt, Sem.run_bind, run_underlying hu, Result.andThen_ok, hfd, Instr.sureAddr, Sem.run_pure, fieldPlace, run_size hinf, hs, if_false]
          · cases h
        · cases h
      · cases h
    · cases h
  · cases h

theorem fieldQ_ok {s : TypeId} {x : Operand} {i : Nat} (hop : o.op = .field s x i) (hR : RO ρ f g) (h : fieldQ P s (f x) i = some r) : QOk P ρ g o r w := by
  have hx := hR x
  unfold fieldQ at h
  split at h
  · rename_i l hf
    rw [hf] at hx
    split at h
    · rename_i fs hu
      split at h
      · rename_i fd hfd
        split at h
        · rename_i v hv
          cases h
          simp only [SV.R] at hx
          obtain ⟨cs, hgx, hcs⟩ := hx
          obtain ⟨u, hu1, hu2⟩ := partV_R hv hcs
          refine qok_pure hu1 fun w' => ?_
          unfold execOp
          simp only [hop, hgx, Instr.field, Sem.run_bind, run_underlying hu, Result.andThen_ok, hfd, asAgg, Sem.run_pure, hu2]
        · cases h
      · cases h
    · cases h
  · cases h

theorem indexAddrQ_ok {t : TypeId} {x i : Operand} (hop : o.op = .indexAddr t x i) (hR : RO ρ f g) (h : indexAddrQ P t (f x) (f i) = some r) (ha : astOk r.ast) : QOk P ρ g o r w := by
  have hx := hR x
  have hi := hR i
  unfold indexAddrQ at h
  split at h
  · rename_i ki ie hfi
    rw [hfi] at hi
    simp only [SV.R] at hi
    split at h
    · rename_i e hu
      split at h
      · rename_i inf hinf
        split at h
        · rename_i hd k off len cap hfx
          rw [hfx] at hx
          split at h
          · rename_i hk
            have hk := Nat.eq_of_beq_eq_true hk
            subst hk
            split at h
            · rename_i off' hoff
              cases h
              obtain ⟨a1, a2⟩ := astOk_app ha
              have b1 := nonneg_ok a1
              have b2 : ie.i < len.i := of_decide_eq_true (below_ok a2)
              simp only [SV.R] at hx
              obtain ⟨hpos, h0, op, oa, c, hp, hgx, hlc, hcm, hcap, hadr⟩ := hx
              obtain ⟨p, rfl, rfl, _⟩ := hadr (by omega)
              obtain ⟨o1, o2⟩ := offIdx_n hoff b1 hpos
              refine qok_pure (v := .pointer (some ((p.a.add off.n).add (ie.i.toNat * inf.size)))) ?_ fun w' => ?_
              · simp only [SV.R]
                exact ⟨o2, p, hp, by rw [o1, Addr.add_add']⟩
              · unfold execOp
                simp only [hop, hgx, hi, Instr.indexAt, asIntOf, Sem.run_bind, Sem.run_pure, run_underlying hu, Result.andThen_ok]
                simp only [show (0 ≤ ie.i ∧ ie.i < ((len.i.toNat : Nat) : Int)) by omega, and_self, if_true, Sem.run_bind, run_size hinf, Result.andThen_ok, Sem.run_pure]
            · cases h
          · cases h
        · cases h
      · cases h
    · rename_i n e hu
      split at h
      · rename_i inf hinf
        split at h
        · rename_i hd off hfx
          rw [hfx] at hx
          split at h
          · rename_i off' hoff
            cases h
            obtain ⟨a1, a2⟩ := astOk_app ha
            have b1 := nonneg_ok a1
            have b2 : ie.i < (n : Int) := of_decide_eq_true (below_ok a2)
            simp only [SV.R] at hx
            obtain ⟨hpos, p, hp, hgx⟩ := hx
            obtain ⟨o1, o2⟩ := offIdx_n hoff b1 hpos
            refine qok_pure (v := .pointer (some ((p.a.add off.n).add (ie.i.toNat * inf.size)))) ?_ fun w' => ?_
            · simp only [SV.R]
              exact ⟨o2, p, hp, by rw [o1, Addr.add_add']⟩
            · unfold execOp
              simp only [hop, hgx, hi, Instr.indexAt, asIntOf, Instr.sureAddr, Sem.run_bind, Sem.run_pure, run_underlying hu, Result.andThen_ok]
              simp only [show (0 ≤ ie.i ∧ ie.i < (n : Int)) from ⟨b1, b2⟩, and_self, if_true, Sem.run_bind, run_size hinf, Result.andThen_ok, Sem.run_pure]
          · cases h
        · cases h
      · cases h
    · cases h
  · cases h

theorem indexQ_ok {t : TypeId} {x i : Operand} (hop : o.op = .index t x i) (hR : RO ρ f g) (h : indexQ P t (f x) (f i) = some r) : QOk P ρ g o r w := by
  have hx := hR x
  have hi := hR i
  unfold indexQ at h
  split at h
  · rename_i ki n hfi
    rw [hfi] at hi
    simp only [SV.R, E.i_lit] at hi
    split at h
    · rename_i len e hu
      split at h
      · rename_i inf hinf
        split at h
        · rename_i l hfx
          rw [hfx] at hx
          split at h
          · rename_i h1 h2
            have h1 := of_decide_eq_true h1
            have h2 := of_decide_eq_true h2
            split at h
            · rename_i v hv
              cases h
              simp only [SV.R] at hx
              obtain ⟨cs, hgx, hcs⟩ := hx
              obtain ⟨u, hu1, hu2⟩ := partV_R hv hcs
              refine qok_pure hu1 fun w' => ?_
              unfold execOp
              simp only [hop, hgx, hi, Instr.index, asIntOf, Sem.run_bind, Sem.run_pure, run_underlying hu, Result.andThen_ok]
              simp only [h1, h2, and_self, if_true, Sem.run_bind, run_size hinf, Result.andThen_ok, hu2]
            · cases h
          · cases h
        · cases h
      · cases h
    · rename_i hu
      split at h
      · rename_i s hfx h1
        rw [hfx] at hx
        have h1 := of_decide_eq_true h1
        split at h
        · rename_i b hb
          cases h
          simp only [SV.R] at hx
          refine qok_pure (v := .int .u8 b.toNat) (by simp only [SV.R, E.i_lit]) fun w' => ?_
          unfold execOp
          simp only [hop, hx, hi, Instr.index, asIntOf, Sem.run_bind, Sem.run_pure, run_underlying hu, Result.andThen_ok]
          simp only [h1, if_true, hb, Sem.run_pure, Result.andThen_ok]
        · cases h
      · cases h
    · cases h
  · cases h

theorem unQ_ok {op : UnOp} {t : TypeId} {x : Operand} (hop : o.op = .unOp op t x) (hR : RO ρ f g) (h : unQ op (f x) = some r) : QOk P ρ g o r w := by
  have hx := hR x
  unfold unQ at h
  split at h
  · split at h
    · rename_i e hf
      rw [hf] at hx; simp only [SV.R] at hx
      cases h
      refine qok_pure (by simp only [SV.R]; rfl) fun w' => ?_
      unfold execOp
      simp [hop, hx, Op.unary]
    · cases h
  · split at h
    · rename_i k e hf
      rw [hf] at hx; simp only [SV.R] at hx
      cases h
      refine qok_pure (by simp only [SV.R]; rfl) fun w' => ?_
      unfold execOp
      simp [hop, hx, Op.unary, Op.intArith, arD]
    · cases h
  · split at h
    · rename_i k e hf
      rw [hf] at hx; simp only [SV.R] at hx
      cases h
      refine qok_pure (by simp only [SV.R]; rfl) fun w' => ?_
      unfold execOp
      simp [hop, hx, Op.unary, Op.intBits, arD]
    · cases h
  · cases h

theorem convQ_ok {src dst : TypeId} {x : Operand} (hop : o.op = .convert src dst x) (hR : RO ρ f g) (h : convQ P src dst (f x) = some r) : QOk P ρ g o r w := by
  have hx := hR x
  unfold convQ at h
  split at h
  · rename_i k0 e hf
    rw [hf] at hx; simp only [SV.R] at hx
    split at h
    · rename_i d k hs hd
      cases h
      refine qok_pure (by simp only [SV.R]; rfl) fun w' => ?_
      unfold execOp
      simp [hop, hx, convert, run_underlying hs, run_underlying hd, Conv.intToInt]
    · cases h
  · cases h

theorem exec_builtin {b : Builtin} {c : Call} (hop : o.op = .call c) (hc : c.callee = .builtin b) : execOp g o = builtin b c.argTypes o.type (c.args.map fun | .const _ => true | _ => false) (c.args.map g) := by
  unfold execOp
  simp only [hop, resolve, hc]
  rfl

theorem foldQ_ok {fs : SV → SV → Option SV} {fv : Value → Value → Sem Value} (hf : ∀ {x y z vx vy}, fs x y = some z → SV.R ρ x vx → SV.R ρ y vy → ∃ v, SV.R ρ z v ∧ fv vx vy = pure v) :
    ∀ (l : List SV) (r : List Value) (x z : SV) (vx : Value), SV.RL ρ l r → SV.R ρ x vx → foldQ fs x l = some z → ∃ v, SV.R ρ z v ∧ r.foldlM fv vx = pure v
  | [], [], x, z, vx, _, hx, h => by cases h; exact ⟨vx, hx, rfl⟩
  | y :: l, vy :: r, x, z, vx, hl, hx, h => by
    simp only [SV.RL] at hl
    simp only [foldQ] at h
    split at h
    · rename_i u hu
      obtain ⟨v, hv, he⟩ := hf hu hx hl.1
      obtain ⟨v', hv', he'⟩ := foldQ_ok hf l r u z v hl.2 hv h
      exact ⟨v', hv', by simp [List.foldlM_cons, he, he']⟩
    · cases h
  | [], _ :: _, _, _, _, h, _, _ => by simp [SV.RL] at h
  | _ :: _, [], _, _, _, h, _, _ => by simp [SV.RL] at h

theorem lenQ_ok {c : Call} {t : TypeId} (hop : o.op = .call c) (hc : c.callee = .builtin .len) (ht : c.argTypes.toList = [t]) {x : SV} {vx : Value} (hx : SV.R ρ x vx) (hv : (c.args.map g).toList = [vx]) (h : lenQ P t x = some r) : QOk P ρ g o r w := by
  have hv' : c.args.map g = #[vx] := by rw [← Array.toArray_toList (xs := c.args.map g), hv]
  have ht' : c.argTypes = #[t] := by rw [← Array.toArray_toList (xs := c.argTypes), ht]
  have ex : execOp g o = (do pure (.value (← Builtin.len_ #[t] o.type #[vx])) : Sem Next) := by rw [exec_builtin hop hc, hv', ht']; rfl
  unfold lenQ at h
  split at h
  · rename_i e hu
    split at h
    · cases h
      simp only [SV.R] at hx
      obtain ⟨_, h0, op, oa, cc, _, rfl, _⟩ := hx
      refine qok_pure (by simp only [SV.R]; rfl) fun w' => ?_
      rw [ex]
      simp [Builtin.len_, run_underlying hu, goInt]
      omega
    · cases h
      simp only [SV.R] at hx
      subst hx
      refine qok_pure (by simp only [SV.R]; rfl) fun w' => ?_
      rw [ex]
      simp [Builtin.len_, run_underlying hu, goInt]
    · cases h
  · rename_i hu
    split at h
    · cases h
      simp only [SV.R] at hx
      subst hx
      refine qok_pure (by simp only [SV.R]; rfl) fun w' => ?_
      rw [ex]
      simp [Builtin.len_, run_underlying hu, goInt]
    · cases h
  · rename_i n e hu
    cases h
    refine qok_pure (by simp only [SV.R]; rfl) fun w' => ?_
    rw [ex]
    simp [Builtin.len_, run_underlying hu, goInt]
  · rename_i k e hu
    split at h
    · cases h
      simp only [SV.R] at hx
      subst hx
      refine qok_pure (by simp only [SV.R]; rfl) fun w' => ?_
      rw [ex]
      simp [Builtin.len_, run_underlying hu, goInt]
    · cases h
  · cases h

theorem builtinQ_ok {c : Call} {b : Builtin} (hop : o.op = .call c) (hc : c.callee = .builtin b) (hR : RO ρ f g) (h : builtinQ P b c.argTypes (c.args.toList.map f) = some r) : QOk P ρ g o r w := by
  have hargs : SV.RL ρ (c.args.toList.map f) (c.args.map g).toList := by rw [Array.toList_map]; exact RL_map hR _
  unfold builtinQ at h
  split at h
  · split at h
    · rename_i t x ht hx
      rw [hx] at hargs
      have hl := RL_length hargs
      match hv : (c.args.map g).toList, hl with
      | [vx], _ =>
        rw [hv] at hargs
        simp only [SV.RL, and_true] at hargs
        exact lenQ_ok hop hc ht hargs hv h
    · cases h
  · split at h
    · rename_i x l hx
      split at h
      · rename_i z hz
        cases h
        rw [hx] at hargs
        match hv : (c.args.map g).toList with
        | [] => rw [hv] at hargs; simp [SV.RL] at hargs
        | vx :: vr =>
          rw [hv] at hargs
          simp only [SV.RL] at hargs
          obtain ⟨v, hv1, hv2⟩ := foldQ_ok (fv := Builtin.min2) (fun {x y z vx vy} h hx hy => by
            unfold min2 at h
            split at h
            · cases h
              simp only [SV.R] at hx hy
              subst hx; subst hy
              refine ⟨_, (by simp only [SV.R]; rfl), ?_⟩
              simp [Builtin.min2, cmpD]
            · cases h) l vr x z vx hargs.2 hargs.1 hz
          refine qok_pure hv1 fun w' => ?_
          rw [exec_builtin hop hc]
          have hv3 : List.map g c.args.toList = vx :: vr := by rw [← Array.toList_map]; exact hv
          simp [builtin, Builtin.min_, hv3, hv2]
      · cases h
    · cases h
  · split at h
    · rename_i x l hx
      split at h
      · rename_i z hz
        cases h
        rw [hx] at hargs
        match hv : (c.args.map g).toList with
        | [] => rw [hv] at hargs; simp [SV.RL] at hargs
        | vx :: vr =>
          rw [hv] at hargs
          simp only [SV.RL] at hargs
          obtain ⟨v, hv1, hv2⟩ := foldQ_ok (fv := Builtin.max2) (fun {x y z vx vy} h hx hy => by
            unfold max2 at h
            split at h
            · cases h
              simp only [SV.R] at hx hy
              subst hx; subst hy
              refine ⟨_, (by simp only [SV.R]; rfl), ?_⟩
              simp [Builtin.max2, cmpD]
            · cases h) l vr x z vx hargs.2 hargs.1 hz
          refine qok_pure hv1 fun w' => ?_
          rw [exec_builtin hop hc]
          have hv3 : List.map g c.args.toList = vx :: vr := by rw [← Array.toList_map]; exact hv
          simp [builtin, Builtin.max_, hv3, hv2]
      · cases h
    · cases h
  · cases h

theorem quietOp_ok (hR : RO ρ f g) (hobj : ∀ h own ob, hfind H h = some (own, ob) → ∃ op, ρ h = some op ∧ ob.R ρ w op) (h : quietOp P H f o.op = some r) (ha : astOk r.ast) : QOk P ρ g o r w := by
  unfold quietOp at h
  split at h
  · rename_i x hop
    cases h
    exact qok_pure (hR x) fun w' => by unfold execOp; simp [hop]
  · rename_i x hop
    cases h
    exact qok_pure (hR x) fun w' => by unfold execOp; simp [hop]
  · rename_i c a b hop
    exact pickQ_ok hop hR h
  · rename_i t parts hop
    split at h
    · rename_i c hb
      cases h
      obtain ⟨vc, h1, h2⟩ := builtS_R hb (partsR_map hR _)
      refine qok_pure (v := .agg vc) (by simp only [SV.R]; exact ⟨_, rfl, h2⟩) fun w' => ?_
      unfold execOp
      simp only [hop, Sem.run_bind]
      rw [run_build w' t _ vc (by rw [Array.toList_map]; exact h1)]
      rfl
    · cases h
  · rename_i t a hop
    exact loadQ_ok hop hR hobj h ha
  · rename_i x hop
    have hx := hR x
    split at h
    · rename_i hd off hf
      rw [hf] at hx
      cases h
      refine qok_pure hx fun w' => ?_
      simp only [SV.R] at hx
      obtain ⟨_, p, _, hgx⟩ := hx
      unfold execOp
      simp [hop, hgx]
    · rename_i n a b hf
      rw [hf] at hx
      cases h
      refine qok_pure hx fun w' => ?_
      simp only [SV.R] at hx
      obtain ⟨_, _, hgx, _⟩ := hx
      unfold execOp
      simp [hop, hgx]
    · cases h
  · rename_i op t x y yt hop
    split at h
    · rename_i a v hb
      cases h
      obtain ⟨u, h1, h2⟩ := binopV_R (a := x) (b := y) hb ha (hR x) (hR y)
      refine qok_pure h1 fun w' => ?_
      have h2 := h2 w'
      unfold execOp
      simp only [hop, Sem.run_bind, Sem.run_pure] at h2 ⊢
      simp only [h2, Result.andThen_ok]
    · split at h
      · rename_i a v hb
        cases h
        obtain ⟨u, h1, h2⟩ := nilCmp_R (a := x) (b := y) hb ha (hR x) (hR y)
        refine qok_pure h1 fun w' => ?_
        have h2 := h2 w'
        unfold execOp
        simp only [hop, Sem.run_bind, Sem.run_pure] at h2 ⊢
        simp only [h2, Result.andThen_ok]
      · cases h
  · rename_i op t x hop
    exact unQ_ok hop hR h
  · rename_i src dst x hop
    exact convQ_ok hop hR h
  · rename_i fn a b hop
    cases h
    refine qok_pure (v := .func fn (a.map g) (b.map g)) ?_ fun w' => ?_
    · simp only [SV.R]
      exact ⟨_, _, rfl, by rw [Array.toList_map]; exact RL_map hR _, by rw [Array.toList_map]; exact RL_map hR _⟩
    · unfold execOp
      simp [hop, Instr.makeFunc]
  · rename_i t x lo hi mx hop
    exact sliceQ_ok hop hR hobj h ha
  · rename_i s x i hop
    exact fieldAddrQ_ok hop hR h
  · rename_i s x i hop
    exact fieldQ_ok hop hR h
  · rename_i t x i hop
    exact indexAddrQ_ok hop hR h ha
  · rename_i t x i hop
    exact indexQ_ok hop hR h
  · rename_i t i hop
    have hx := hR t
    split at h
    · rename_i l hf
      rw [hf] at hx
      split at h
      · rename_i v hv
        cases h
        simp only [SV.R] at hx
        obtain ⟨vs, hgx, hvs⟩ := hx
        obtain ⟨u, hu1, hu2⟩ := RL_get hvs i v hv
        refine qok_pure hu2 fun w' => ?_
        unfold execOp
        have hu1' : vs[i]? = some u := by simpa using hu1
        simp [hop, hgx, Instr.extract, hu1']
      · cases h
    · cases h
  · rename_i c hop
    split at h
    · rename_i b hc
      exact builtinQ_ok hop hc hR h
    · cases h
  · cases h
end

end Go.Sx
