import Derived.Test.YtpkapjlcmoikoaaSxC
import Derived.Laws.StructEq
import Derived.ChangeKeysEq
set_option linter.all false
/-
  '==' on symbolic values; binary and unary operators.
-/
namespace Go.Sx
open Go

def isAggD : TypeDesc → Bool
  | .struct _ | .array .. => true
  | _ => false
theorem run_isAgg {P : Program} {t : TypeId} {d : TypeDesc} (h : P.underlying t = some d) (w : World) : (isAgg t).run P w = .ok (isAggD d) w := by
  simp only [isAgg, Sem.run_bind, run_underlying h, Result.andThen_ok]
  cases d <;> rfl
theorem run_size {P : Program} {t : TypeId} {i : TypeInfo} (h : P.info? t = some i) (w : World) : (sizeOf t).run P w = .ok i.size w := by
  simp [sizeOf, typeInfo, h]

def partV (P : Program) (t : TypeId) (xs : List SV) (off : Nat) : Option SV :=
  match P.underlying t with
  | none => none
  | some d => match isAggD d with
    | true => match P.info? t with
      | none => none
      | some i => match take? xs off i.size with
        | some l => some (.agg l)
        | none => none
    | false => xs[off]?
theorem take?_some {l m : List SV} {a n : Nat} (h : take? l a n = some m) : m = (l.drop a).take n ∧ a + n ≤ l.length := by
  unfold take? at h
  split at h
  · rename_i hb; cases h; exact ⟨rfl, Nat.le_of_ble_eq_true hb⟩
  · cases h
theorem partV_R {P : Program} {ρ : Rho} {t : TypeId} {xs : List SV} {vs : Array Value} {off : Nat} {s : SV} (h : partV P t xs off = some s) (hR : SV.RL ρ xs vs.toList) :
    ∃ v, SV.R ρ s v ∧ ∀ w, (part t vs off).run P w = .ok v w := by
  unfold partV at h
  split at h
  · cases h
  · rename_i d hd
    split at h
    · rename_i ha
      split at h
      · cases h
      · rename_i i hi
        split at h
        · rename_i l hl
          cases h
          obtain ⟨rfl, hle⟩ := take?_some hl
          refine ⟨.agg (vs.extract off (off + i.size)), ?_, fun w => ?_⟩
          · simp only [SV.R]
            refine ⟨_, rfl, ?_⟩
            have := RL_take_drop hR off i.size
            rwa [show (vs.extract off (off + i.size)).toList = (vs.toList.drop off).take i.size by simp [List.take_drop]]
          · simp [part, run_isAgg hd, ha, run_size hi]
        · cases h
    · rename_i ha
      obtain ⟨v, hv, hr⟩ := RL_get hR off s h
      refine ⟨v, hr, fun w => ?_⟩
      have hv' : vs[off]? = some v := by simpa using hv
      simp [part, run_isAgg hd, ha, hv']

def scalarEq (td : TypeDesc) (x y : SV) : Option E :=
  match td with
  | .bool => match x, y with
    | .bool a, .bool b => some (beq' a b)
    | _, _ => none
  | .int _ => match x, y with
    | .int k a, .int k' b => match decide (k = k') with
      | true => some (cmp' .eql a b)
      | false => none
    | _, _ => none
  | .string => match x, y with
    | .lit (.string a), .lit (.string b) => some (.bl (a.toList == b.toList))
    | _, _ => none
  | .pointer _ => match x, y with
    | .lit (.pointer none), .lit (.pointer none) => some (.bl true)
    | .ptr .., .lit (.pointer none) => some (.bl false)
    | .lit (.pointer none), .ptr .. => some (.bl false)
    | _, _ => none
  | .map .. => match x, y with
    | .lit (.map none), .lit (.map none) => some (.bl true)
    | .mp .., .lit (.map none) => some (.bl false)
    | .lit (.map none), .mp .. => some (.bl false)
    | _, _ => none
  | .func .. => match x, y with
    | .lit .nilFunc, .lit .nilFunc => some (.bl true)
    | .fn .., .lit .nilFunc => some (.bl false)
    | .lit .nilFunc, .fn .. => some (.bl false)
    | _, _ => none
  | _ => none
def eqFs (P : Program) (rec_ : TypeId → SV → SV → Option E) (xs ys : List SV) : List Field → Option E
  | [] => some (.bl true)
  | f :: fs => match decide (f.name = "_") with
    | true => eqFs P rec_ xs ys fs
    | false => match partV P f.type xs f.offset, partV P f.type ys f.offset with
      | some a, some b => match rec_ f.type a b, eqFs P rec_ xs ys fs with
        | some r, some q => some (and' r q)
        | _, _ => none
      | _, _ => none
def eqIs (P : Program) (rec_ : TypeId → SV → SV → Option E) (e : TypeId) (size : Nat) (xs ys : List SV) : List Nat → Option E
  | [] => some (.bl true)
  | i :: is => match partV P e xs (i * size), partV P e ys (i * size) with
    | some a, some b => match rec_ e a b, eqIs P rec_ e size xs ys is with
      | some r, some q => some (and' r q)
      | _, _ => none
    | _, _ => none
def eqV (P : Program) : Nat → TypeId → SV → SV → Option E
  | 0, _, _, _ => none
  | d+1, t, x, y => match P.underlying t with
    | none => none
    | some (.struct fs) => match x, y with
      | .agg xs, .agg ys => match P.stoodInHeld t with
        | true => none
        | false => eqFs P (eqV P d) xs ys fs.toList
      | _, _ => none
    | some (.array n e) => match x, y with
      | .agg xs, .agg ys => match P.info? e with
        | some _ => eqIs P (eqV P d) e (P.cellsOf e) xs ys (List.range n)
        | none => none
      | _, _ => none
    | some td => scalarEq td x y

theorem scalarEq_R {P : Program} {ρ : Rho} {t : TypeId} {td : TypeDesc} (ht : P.underlying t = some td) {x y : SV} {e : E} (h : scalarEq td x y = some e) {vx vy : Value} (hx : SV.R ρ x vx) (hy : SV.R ρ y vy) (D : Nat) (w : World) :
    (Op.equalIn (D + 1) t vx vy).run P w = .ok e.b w := by
  unfold scalarEq at h
  split at h
  · split at h
    · cases h
      simp only [SV.R] at hx hy; subst hx; subst hy
      simp [Op.equalIn, run_underlying ht]
    · cases h
  · split at h
    · split at h
      · rename_i hk
        cases h
        have hk := of_decide_eq_true hk
        subst hk
        simp only [SV.R] at hx hy; subst hx; subst hy
        simp [Op.equalIn, run_underlying ht, cmpD]
      · cases h
    · cases h
  · split at h
    · cases h
      simp only [SV.R] at hx hy; subst hx; subst hy
      rw [run_equalIn_string w D t _ _ ht]; rfl
    · cases h
  · split at h
    all_goals first | (cases h; done) | skip
    · cases h
      simp only [SV.R] at hx hy; subst hx; subst hy
      simp [Op.equalIn, run_underlying ht]
    · cases h
      simp only [SV.R] at hx hy; subst hy
      obtain ⟨_, p, _, rfl⟩ := hx
      simp [Op.equalIn, run_underlying ht]
    · cases h
      simp only [SV.R] at hx hy; subst hx
      obtain ⟨_, p, _, rfl⟩ := hy
      simp [Op.equalIn, run_underlying ht]
  · split at h
    all_goals first | (cases h; done) | skip
    · cases h
      simp only [SV.R] at hx hy; subst hx; subst hy
      simp [Op.equalIn, run_underlying ht]
    · cases h
      simp only [SV.R] at hx hy; subst hy
      obtain ⟨p, _, _, _, rfl⟩ := hx
      simp [Op.equalIn, run_underlying ht]
    · cases h
      simp only [SV.R] at hx hy; subst hx
      obtain ⟨p, _, _, _, rfl⟩ := hy
      simp [Op.equalIn, run_underlying ht]
  · split at h
    all_goals first | (cases h; done) | skip
    · cases h
      simp only [SV.R] at hx hy; subst hx; subst hy
      simp [Op.equalIn, run_underlying ht]
    · cases h
      simp only [SV.R] at hx hy; subst hy
      obtain ⟨_, _, rfl, _⟩ := hx
      simp [Op.equalIn, run_underlying ht]
    · cases h
      simp only [SV.R] at hx hy; subst hx
      obtain ⟨_, _, rfl, _⟩ := hy
      simp [Op.equalIn, run_underlying ht]
  · cases h

theorem eqFs_R {P : Program} {ρ : Rho} {rec_ : TypeId → SV → SV → Option E} {D : Nat}
    (hrec : ∀ t x y e, rec_ t x y = some e → ∀ vx vy, SV.R ρ x vx → SV.R ρ y vy → ∀ w, (Op.equalIn D t vx vy).run P w = .ok e.b w)
    {xs ys : List SV} {vs us : Array Value} (hx : SV.RL ρ xs vs.toList) (hy : SV.RL ρ ys us.toList) : ∀ (fs : List Field) (e : E), eqFs P rec_ xs ys fs = some e → ∀ w, (Op.eqFields D vs us fs).run P w = .ok e.b w
  | [], e, h, w => by cases h; simp [Op.eqFields]
  | f :: fs, e, h, w => by
    simp only [eqFs] at h
    split at h
    · rename_i hn
      have hn := of_decide_eq_true hn
      simp only [Op.eqFields, hn, ne_eq, not_true_eq_false, if_false]
      exact eqFs_R hrec hx hy fs e h w
    · rename_i hn
      have hn := of_decide_eq_false hn
      split at h
      · rename_i a b ha hb
        split at h
        · rename_i r q hr hq
          cases h
          obtain ⟨va, ra, runa⟩ := partV_R ha hx
          obtain ⟨vb, rb, runb⟩ := partV_R hb hy
          have ih := eqFs_R hrec hx hy fs q hq w
          simp only [Op.eqFields, ne_eq, hn, not_false_eq_true, if_true, Sem.run_bind, runa, runb, Result.andThen_ok, hrec _ _ _ _ hr _ _ ra rb, and'_b, Sem.run_ite, Sem.run_pure, ih]
          cases r.b <;> simp
        · cases h
      · cases h

theorem eqIs_R {P : Program} {ρ : Rho} {rec_ : TypeId → SV → SV → Option E} {D : Nat}
    (hrec : ∀ t x y e, rec_ t x y = some e → ∀ vx vy, SV.R ρ x vx → SV.R ρ y vy → ∀ w, (Op.equalIn D t vx vy).run P w = .ok e.b w)
    {xs ys : List SV} {vs us : Array Value} (hx : SV.RL ρ xs vs.toList) (hy : SV.RL ρ ys us.toList) (t : TypeId) (size : Nat) : ∀ (is : List Nat) (e : E), eqIs P rec_ t size xs ys is = some e → ∀ w, (Op.eqItems D t size vs us is).run P w = .ok e.b w
  | [], e, h, w => by cases h; simp [Op.eqItems]
  | i :: is, e, h, w => by
    simp only [eqIs] at h
    split at h
    · rename_i a b ha hb
      split at h
      · rename_i r q hr hq
        cases h
        obtain ⟨va, ra, runa⟩ := partV_R ha hx
        obtain ⟨vb, rb, runb⟩ := partV_R hb hy
        have ih := eqIs_R hrec hx hy t size is q hq w
        simp only [Op.eqItems, Sem.run_bind, runa, runb, Result.andThen_ok, hrec _ _ _ _ hr _ _ ra rb, and'_b, Sem.run_ite, Sem.run_pure, ih]
        cases r.b <;> simp
      · cases h
    · cases h

theorem eqV_R {P : Program} {ρ : Rho} : ∀ (d : Nat) (t : TypeId) (x y : SV) (e : E), eqV P d t x y = some e → ∀ D, d ≤ D → ∀ vx vy, SV.R ρ x vx → SV.R ρ y vy → ∀ w, (Op.equalIn D t vx vy).run P w = .ok e.b w
  | 0, _, _, _, _, h, _, _, _, _, _, _, _ => by simp [eqV] at h
  | d+1, t, x, y, e, h, D, hD, vx, vy, hx, hy, w => by
    obtain ⟨D, rfl⟩ : ∃ k, D = k + 1 := ⟨D - 1, by omega⟩
    have ih : ∀ t x y e, eqV P d t x y = some e → ∀ vx vy, SV.R ρ x vx → SV.R ρ y vy → ∀ w, (Op.equalIn D t vx vy).run P w = .ok e.b w :=
      fun t x y e h vx vy hx hy w => eqV_R d t x y e h D (by omega) vx vy hx hy w
    simp only [eqV] at h
    split at h
    · cases h
    · rename_i fs ht
      split at h
      · rename_i xs ys
        split at h
        · cases h
        · rename_i hst
          simp only [SV.R] at hx hy
          obtain ⟨vs, rfl, hx⟩ := hx
          obtain ⟨us, rfl, hy⟩ := hy
          have hfs : P.fieldsOf t = fs := by simp [Program.fieldsOf, ht]
          rw [run_equalIn_struct w D t vs us (by rw [hfs]; exact ht) hst, hfs]
          exact eqFs_R ih hx hy _ _ h w
      · cases h
    · rename_i n el ht
      split at h
      · rename_i xs ys
        split at h
        · rename_i i hi
          simp only [SV.R] at hx hy
          obtain ⟨vs, rfl, hx⟩ := hx
          obtain ⟨us, rfl, hy⟩ := hy
          rw [run_equalIn_array w D vs us ht hi]
          exact eqIs_R ih hx hy el _ _ _ h w
        · cases h
      · cases h
    · rename_i td h1 h2 ht
      exact scalarEq_R ht h hx hy D w

end Go.Sx
