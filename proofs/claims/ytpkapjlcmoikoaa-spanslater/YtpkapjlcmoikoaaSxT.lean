import Derived.Test.YtpkapjlcmoikoaaSxS
set_option linter.all false
/-
  A state that says less: handles under other numbers. The loop rule.
-/
namespace Go.Sx
open Go

/-- where a handle of the weaker state comes from: the same; another; an empty row -/
inductive Src where
  | of (h : Nat)
  | nil
/-- handles below 'base' are as they were; base + i is what the list says -/
def srcOf (base : Nat) (σ : List Src) (h : Nat) : Option Src :=
  match Nat.blt h base with
  | true => some (.of h)
  | false => σ[h - base]?
def pickR (ρ : Rho) : Option Src → Option (Option Pl)
  | some (.of g) => ρ g
  | some .nil => some none
  | none => none
def rhoOf (base : Nat) (σ : List Src) (ρ : Rho) : Rho := { ρ with f := fun h => pickR ρ (srcOf base σ h) }

/-- equations that are left to a proof -/
structure EqI (a b : E) : Prop where
  h : a.i = b.i
structure EqB (a b : E) : Prop where
  h : a.b = b.b
structure EqO (a b : Off) : Prop where
  h : a.n = b.n
mutual
/-- 's' may be taken for 't' -/
def SVle (S : Nat → Option Src) : SV → SV → Prop
  | _, .any => True
  | .int k e, .int k' e' => k = k' ∧ EqI e e'
  | .bool e, .bool e' => EqB e e'
  | .lit v, .lit v' => v = v'
  | .lit v, .sl h' _ o' len' cap' => v = .slice none 0 0 ∧ S h' = some .nil ∧ EqI len' (.lit 0) ∧ (∀ e, cap' = some e → e.i = 0) ∧ o'.pos
  | .ptr h o, .ptr h' o' => S h' = some (.of h) ∧ EqO o o' ∧ o'.pos
  | .sl h k o len cap, .sl h' k' o' len' cap' => S h' = some (.of h) ∧ k = k' ∧ EqO o o' ∧ o'.pos ∧ EqI len len' ∧ (∀ e', cap' = some e' → ∃ e, cap = some e ∧ e.i = e'.i)
  | .mp h, .mp h' => S h' = some (.of h)
  | .yl h, .yl h' => S h' = some (.of h)
  | .fn f a b, .fn f' a' b' => f = f' ∧ SVleL S a a' ∧ SVleL S b b'
  | .agg l, .agg l' => SVleL S l l'
  | .tup l, .tup l' => SVleL S l l'
  | _, _ => False
def SVleL (S : Nat → Option Src) : List SV → List SV → Prop
  | [], [] => True
  | a :: l, b :: r => SVle S a b ∧ SVleL S l r
  | _, _ => False
end

def Oble (S : Nat → Option Src) : Ob → Ob → Prop
  | .cells _ vs, .cells _ vs' => SVleL S vs vs'
  | .cells _ vs, .row _ k n F => 0 ≤ n.i ∧ n.i.toNat * k ≤ vs.length ∧ ∀ (e : E) (j : Nat), 0 ≤ e.i → e.i < n.i → j < k → SVle S (getT vs (e.i.toNat * k + j)) (F j e)
  | .row _ k n F, .row _ k' n' F' => k = k' ∧ EqI n n' ∧ ∀ (e e' : E) (j : Nat), e.i = e'.i → 0 ≤ e.i → e.i < n.i → j < k → SVle S (F j e) (F' j e')
  | .loop s pend tm ps asg bd, .loop s' pend' tm' ps' asg' bd' => s = s' ∧ pend = pend' ∧ SVleL S tm tm' ∧ ps = ps' ∧ asg = asg' ∧ bd = bd'
  | .dfr a, .dfr b => a = b
  | _, _ => False

/-- an object of the weaker heap has its source -/
def Hle (S : Nat → Option Src) (H : Heap) : Heap → Prop
  | [] => True
  | (h, own, o) :: r => (match S h with
    | some (.of g) => (match hfind H g with
      | some (own', o') => (own = true → own' = true) ∧ Oble S o' o
      | none => False)
    | some .nil => (match o with
      | .row _ _ n _ => EqI n (.lit 0)
      | _ => False)
    | none => False) ∧ Hle S H r
/-- no two of the weaker heap's have one source -/
def nodup (S : Nat → Option Src) (H : Heap) : Bool :=
  go (H.map fun x => S x.1)
where
  go : List (Option Src) → Bool
    | [] => true
    | some (.of g) :: r => match has' g r with
      | true => false
      | false => go r
    | _ :: r => go r
  has' (g : Nat) : List (Option Src) → Bool
    | [] => false
    | some (.of h) :: r => match Nat.beq g h with
      | true => true
      | false => has' g r
    | _ :: r => has' g r
def marksOk (base : Nat) : List Nat → Bool
  | [] => true
  | h :: r => match Nat.blt h base with
    | true => marksOk base r
    | false => false

/-- 's' may be taken for 't': 't' has the handles below 'base', and those that 'σ' names -/
structure Le (base : Nat) (σ : List Src) (s t : St) : Prop where
  tm : SVleL (srcOf base σ) s.tmps t.tmps
  hp : Hle (srcOf base σ) s.heap t.heap
  nd : nodup (srcOf base σ) t.heap = true
  nx : t.nx = base + σ.length
  mks : s.mks = t.mks ∧ marksOk base t.mks = true

theorem rhoOf_of {base : Nat} {σ : List Src} {ρ : Rho} {h' h : Nat} (e : srcOf base σ h' = some (.of h)) : rhoOf base σ ρ h' = ρ h := by
  simp only [rhoOf, e, pickR]
theorem rhoOf_nil {base : Nat} {σ : List Src} {ρ : Rho} {h' : Nat} (e : srcOf base σ h' = some .nil) : rhoOf base σ ρ h' = some none := by
  simp only [rhoOf, e, pickR]

mutual
theorem SVle_R {base : Nat} {σ : List Src} {ρ : Rho} : ∀ (s t : SV) (v : Value), SVle (srcOf base σ) s t → SV.R ρ s v → SV.R (rhoOf base σ ρ) t v
  | s, .any, v, h, hr => by simp only [SV.R]
  | s, .int k e, v, h, hr => by
    cases s <;> simp only [SVle] at h
    simp only [SV.R] at hr ⊢
    rw [hr, h.1, h.2.h]
  | s, .bool e, v, h, hr => by
    cases s <;> simp only [SVle] at h
    simp only [SV.R] at hr ⊢
    rw [hr, h.h]
  | s, .lit x, v, h, hr => by
    cases s <;> simp only [SVle] at h
    simp only [SV.R] at hr ⊢
    rw [hr, h]
  | s, .ptr h' o', v, h, hr => by
    cases s <;> simp only [SVle] at h
    simp only [SV.R] at hr ⊢
    obtain ⟨_, p, h1, h2⟩ := hr
    exact ⟨h.2.2, p, (rhoOf_of h.1).trans h1, by rw [h2, h.2.1.h]⟩
  | s, .sl h' k' o' len' cap', v, h, hr => by
    cases s <;> simp only [SVle] at h
    · simp only [SV.R] at hr ⊢
      obtain ⟨rfl, h1, ⟨h2⟩, h3, h4⟩ := h
      rw [E.i_lit] at h2
      subst hr
      exact ⟨h4, by rw [h2]; exact Int.le_refl _, none, none, 0, rhoOf_nil h1, by rw [h2]; rfl, by rw [h2]; simp, by simp [maxLen], fun e he => h3 e he, fun hc => absurd rfl hc⟩
    · simp only [SV.R] at hr ⊢
      obtain ⟨h1, rfl, ⟨h3⟩, h4, ⟨h5⟩, h6⟩ := h
      obtain ⟨_, g0, op, oa, c, g1, g2, g3, g4, g5, g6⟩ := hr
      refine ⟨h4, by rw [← h5]; exact g0, op, oa, c, (rhoOf_of h1).trans g1, by rw [g2, h5], by rw [← h5]; exact g3, g4, fun e he => ?_, fun hc => ?_⟩
      · obtain ⟨e1, e2, e3⟩ := h6 e he
        rw [← e3]
        exact g5 e1 e2
      · rw [← h3]
        exact g6 hc
  | s, .mp h', v, h, hr => by
    cases s <;> simp only [SVle] at h
    simp only [SV.R] at hr ⊢
    obtain ⟨p, h1, h2⟩ := hr
    exact ⟨p, (rhoOf_of h).trans h1, h2⟩
  | s, .yl h', v, h, hr => by
    cases s <;> simp only [SVle] at h
    simp only [SV.R] at hr ⊢
    obtain ⟨p, h1, h2⟩ := hr
    exact ⟨p, (rhoOf_of h).trans h1, h2⟩
  | s, .fn f' a' b', v, h, hr => by
    cases s <;> simp only [SVle] at h
    simp only [SV.R] at hr ⊢
    obtain ⟨x, y, h1, h2, h3⟩ := hr
    exact ⟨x, y, by rw [h1, h.1], SVleL_R _ _ _ h.2.1 h2, SVleL_R _ _ _ h.2.2 h3⟩
  | s, .agg l', v, h, hr => by
    cases s <;> simp only [SVle] at h
    simp only [SV.R] at hr ⊢
    obtain ⟨x, h1, h2⟩ := hr
    exact ⟨x, h1, SVleL_R _ _ _ h h2⟩
  | s, .tup l', v, h, hr => by
    cases s <;> simp only [SVle] at h
    simp only [SV.R] at hr ⊢
    obtain ⟨x, h1, h2⟩ := hr
    exact ⟨x, h1, SVleL_R _ _ _ h h2⟩
theorem SVleL_R {base : Nat} {σ : List Src} {ρ : Rho} : ∀ (s t : List SV) (v : List Value), SVleL (srcOf base σ) s t → SV.RL ρ s v → SV.RL (rhoOf base σ ρ) t v
  | [], [], v, h, hr => by
    cases v with
    | nil => simp [SV.RL]
    | cons x r => simp [SV.RL] at hr
  | [], b :: r, v, h, hr => by simp [SVleL] at h
  | a :: l, [], v, h, hr => by simp [SVleL] at h
  | a :: l, b :: r, v, h, hr => by
    simp only [SVleL] at h
    cases v with
    | nil => simp [SV.RL] at hr
    | cons x vs =>
      simp only [SV.RL] at hr ⊢
      exact ⟨SVle_R _ _ _ h.1 hr.1, SVleL_R _ _ _ h.2 hr.2⟩
end
theorem SVleL_length {S : Nat → Option Src} : ∀ {s t : List SV}, SVleL S s t → s.length = t.length
  | [], [], _ => rfl
  | a :: l, b :: r, h => by
    simp only [SVleL] at h
    simp [SVleL_length h.2]
  | [], _ :: _, h => by simp [SVleL] at h
  | _ :: _, [], h => by simp [SVleL] at h
theorem SVleL_get {S : Nat → Option Src} : ∀ {s t : List SV}, SVleL S s t → ∀ (j : Nat) y, t[j]? = some y → ∃ x, s[j]? = some x ∧ SVle S x y
  | a :: l, b :: r, h, 0, y, hy => by
    simp only [SVleL] at h
    simp at hy
    subst hy
    exact ⟨a, rfl, h.1⟩
  | a :: l, b :: r, h, j+1, y, hy => by
    simp only [SVleL] at h
    simpa using SVleL_get h.2 j y (by simpa using hy)
  | [], [], _, j, y, hy => by simp at hy
  | [], _ :: _, h, _, _, _ => by simp [SVleL] at h
  | _ :: _, [], h, _, _, _ => by simp [SVleL] at h

theorem Oble_R {base : Nat} {σ : List Src} {ρ : Rho} {w : World} {o o' : Ob} {op : Option Pl} (h : Oble (srcOf base σ) o o') (ho : o.R ρ w op) : o'.R (rhoOf base σ ρ) w op := by
  cases o <;> cases o' <;> simp only [Oble] at h
  · obtain ⟨p, rfl, hl, hc⟩ := ho
    refine ⟨p, rfl, by rw [← SVleL_length h]; exact hl, fun j s hs => ?_⟩
    obtain ⟨x, h1, h2⟩ := SVleL_get h j s hs
    obtain ⟨v, g1, g2, g3⟩ := hc j x h1
    exact ⟨v, g1, g2, SVle_R _ _ _ h2 g3⟩
  · obtain ⟨h0, hl, hF⟩ := h
    obtain ⟨p, rfl, hpn, hc⟩ := ho
    refine ⟨⟨h0, fun p' hp' => by cases hp'; omega⟩, fun e j h1 h2 h3 => ?_⟩
    rename_i k n F
    have hidx : e.i.toNat * k + j < n.i.toNat * k := by
      have : (e.i.toNat + 1) * k ≤ n.i.toNat * k := Nat.mul_le_mul_right _ (by omega)
      rw [Nat.add_mul] at this
      omega
    rename_i vs _
    have hs := List.getElem?_eq_getElem (l := vs) (i := e.i.toNat * k + j) (by omega)
    obtain ⟨x, g1, g2, g3⟩ := hc _ _ hs
    refine ⟨p, x, rfl, g1, g2, SVle_R _ _ _ (hF e j h1 h2 h3) ?_⟩
    rw [getT_eq]
    simpa [List.getD, hs] using g3
  · obtain ⟨rfl, ⟨hn⟩, hF⟩ := h
    obtain ⟨⟨h0, hp⟩, hc⟩ := ho
    refine ⟨⟨by rw [← hn]; exact h0, fun p hop => by rw [← hn]; exact hp p hop⟩, fun e j h1 h2 h3 => ?_⟩
    rw [← hn] at h2
    obtain ⟨p, v, g1, g2, g3, g4⟩ := hc e j h1 h2 h3
    exact ⟨p, v, g1, g2, g3, SVle_R _ _ _ (hF e e j rfl h1 h2 h3) g4⟩
  · obtain ⟨rfl, rfl, h3, rfl, rfl, rfl⟩ := h
    obtain ⟨p, rfl, fn, tmps, d, g1, g2, g3⟩ := ho
    exact ⟨p, rfl, fn, tmps, d, g1, SVleL_R _ _ _ h3 g2, g3⟩
  · subst h
    exact ho
theorem Oble_own {S : Nat → Option Src} {w : World} {p : Pl} {o o' : Ob} (h : Oble S o o') (ho : o.own w p) : o'.own w p := by
  cases o <;> cases o' <;> simp only [Oble] at h <;> exact ho

theorem Hle_find {S : Nat → Option Src} {H : Heap} : ∀ {T : Heap}, Hle S H T → ∀ {h : Nat} {own : Bool} {o : Ob}, hfind T h = some (own, o) → (∃ g own' o', S h = some (.of g) ∧ hfind H g = some (own', o') ∧ (own = true → own' = true) ∧ Oble S o' o) ∨
    (S h = some .nil ∧ ∃ t k n F, o = .row t k n F ∧ n.i = 0)
  | [], _, h, own, o, hf => by cases hf
  | (h', own', o') :: r, hh, h, own, o, hf => by
    simp only [Hle] at hh
    rw [hfind_cons] at hf
    split at hf
    · rename_i e
      subst e
      cases hf
      obtain ⟨hh, _⟩ := hh
      split at hh
      · rename_i g hg
        split at hh
        · rename_i own2 o2 h2
          exact .inl ⟨g, own2, o2, hg, h2, hh.1, hh.2⟩
        · exact hh.elim
      · rename_i hg
        split at hh
        · exact .inr ⟨hg, _, _, _, _, rfl, hh.h⟩
        · exact hh.elim
      · exact hh.elim
    · exact Hle_find hh.2 hf

theorem nodup_has {g : Nat} : ∀ {l : List (Option Src)}, nodup.has' g l = false → some (Src.of g) ∉ l
  | [], _, h => by cases h
  | none :: r, hh, h => by
    rcases List.mem_cons.1 h with e | h
    · cases e
    · exact nodup_has (by simpa [nodup.has'] using hh) h
  | some .nil :: r, hh, h => by
    rcases List.mem_cons.1 h with e | h
    · cases e
    · exact nodup_has (by simpa [nodup.has'] using hh) h
  | some (.of q) :: r, hh, h => by
    simp only [nodup.has'] at hh
    rcases List.mem_cons.1 h with e | h
    · cases e
      simp at hh
    · split at hh
      · cases hh
      · exact nodup_has hh h
theorem hfind_mem : ∀ {H : Heap} {h : Nat} {x : Bool × Ob}, hfind H h = some x → (h, x) ∈ H
  | (h', y) :: r, h, x, hf => by
    rw [hfind_cons] at hf
    split at hf
    · rename_i e; subst e; cases hf; exact List.mem_cons_self
    · exact List.mem_cons_of_mem _ (hfind_mem hf)
  | [], _, _, hf => by cases hf
theorem nodup_spec {S : Nat → Option Src} : ∀ {T : Heap}, nodup.go (T.map fun x => S x.1) = true → ∀ {h h' g : Nat} {x y : Bool × Ob}, (h, x) ∈ T → (h', y) ∈ T → h ≠ h' → S h = some (.of g) → S h' = some (.of g) → False
  | [], _, h, h', g, x, y, hm, _, _, _, _ => by cases hm
  | (h0, z) :: r, hn, h, h', g, x, y, hm, hm', hne, hs, hs' => by
    simp only [List.map_cons] at hn
    have hr : nodup.go (r.map fun x => S x.1) = true := by
      cases hS : S h0 with
      | none => rw [hS] at hn; simpa [nodup.go] using hn
      | some y =>
        rw [hS] at hn
        cases y with
        | nil => simpa [nodup.go] using hn
        | of q =>
          simp only [nodup.go] at hn
          split at hn
          · cases hn
          · exact hn
    have notin : ∀ q, S h0 = some (.of q) → ∀ h1 x1, (h1, x1) ∈ r → S h1 = some (.of q) → False := fun q hq h1 x1 hm1 hs1 => by
      rw [hq] at hn
      simp only [nodup.go] at hn
      split at hn
      · cases hn
      · rename_i hb
        exact nodup_has hb (List.mem_map.2 ⟨_, hm1, hs1⟩)
    rcases List.mem_cons.1 hm with e | hm <;> rcases List.mem_cons.1 hm' with e' | hm'
    · cases e; cases e'; exact hne rfl
    · cases e; exact notin g hs h' y hm' hs'
    · cases e'; exact notin g hs' h x hm hs
    · exact nodup_spec hr hm hm' hne hs hs'

/-- the weaker state stands for what the stronger stood for -/
theorem Le.sim {base : Nat} {σ : List Src} {s t : St} (h : Le base σ s t) {C : Cx} {ρ : Rho} {a : Act} {w : World} (hS : Sim C ρ s a w) (_ : base ≤ s.nx) : Sim C (rhoOf base σ ρ) t a w ∧ Agree ρ (rhoOf base σ ρ) base := by
  have low : Agree ρ (rhoOf base σ ρ) base := ⟨fun i hi => rhoOf_of (by
    have : Nat.blt i base = true := Nat.ble_eq_true_of_le hi
    simp only [srcOf, this]), rfl⟩
  refine ⟨⟨SVleL_R _ _ _ h.tm hS.tm, ⟨?_, ?_, ?_, ?_, ?_, hS.rep.size, hS.rep.frame, hS.rep.os, hS.rep.tape, hS.rep.output, ⟨hS.rep.dfr.nd, hS.rep.dfr.blk, hS.rep.dfr.own, ?_⟩⟩, hS.mks⟩, low⟩
  · intro i own o hf
    rcases Hle_find h.hp hf with ⟨g, own', o', h1, h2, h3, h4⟩ | ⟨h1, t, k, n, F, rfl, hn⟩
    · obtain ⟨op, g1, g2⟩ := hS.rep.obj g own' o' h2
      exact ⟨op, (rhoOf_of h1).trans g1, Oble_R h4 g2⟩
    · exact ⟨none, rhoOf_nil h1, ⟨by rw [hn]; exact Int.le_refl _, fun p hp => by cases hp⟩, fun e j e1 e2 => by rw [hn] at e2; omega⟩
  · intro i o p hf hp
    rcases Hle_find h.hp hf with ⟨g, own', o', h1, h2, h3, h4⟩ | ⟨h1, _⟩
    · have h3 := h3 rfl
      subst h3
      rw [rhoOf_of h1] at hp
      obtain ⟨g1, g2⟩ := hS.rep.own g o' p h2 hp
      exact ⟨Oble_own h4 g1, g2⟩
    · rw [rhoOf_nil h1] at hp; cases hp
  · intro i o i' own' o' p p' hne hf hf' hp hp'
    rcases Hle_find h.hp hf with ⟨g, ow, ob, h1, h2, h3, h4⟩ | ⟨h1, _⟩
    · rcases Hle_find h.hp hf' with ⟨g', ow', ob', k1, k2, k3, k4⟩ | ⟨k1, _⟩
      · have h3 := h3 rfl
        subst h3
        rw [rhoOf_of h1] at hp
        rw [rhoOf_of k1] at hp'
        refine hS.rep.sep g ob g' ow' ob' p p' (fun e => ?_) h2 k2 hp hp'
        subst e
        exact nodup_spec h.nd (hfind_mem hf) (hfind_mem hf') hne h1 k1
      · rw [rhoOf_nil k1] at hp'; cases hp'
    · rw [rhoOf_nil h1] at hp; cases hp
  · intro i hi
    rw [h.nx] at hi
    have h1 : Nat.blt i base = false := by
      cases hb : Nat.blt i base with
      | false => rfl
      | true => have := Nat.le_of_ble_eq_true hb; omega
    simp only [rhoOf, srcOf, h1, List.getElem?_eq_none (show σ.length ≤ i - base by omega), pickR]
  · intro i p hp
    unfold rhoOf pickR at hp
    simp only at hp
    split at hp
    · exact hS.rep.lt _ _ hp
    · cases hp
    · cases hp
  · intro b hb' i own o p hf hp
    rcases Hle_find h.hp hf with ⟨g, own', o', h1, h2, h3, h4⟩ | ⟨h1, _⟩
    · rw [rhoOf_of h1] at hp
      exact hS.rep.dfr.sep b hb' g own' o' p h2 hp
    · rw [rhoOf_nil h1] at hp; cases hp

/-- THE LOOP RULE. -/
theorem loop_rule {P : Program} {C : Cx} {rh : Option Nat} {b : Code} {st : St} {k : Ex → St → Prop} {ι : Type} (I : ι → St) (μ : ι → Nat) (x0 : ι) (σ0 : List Src) (h0 : Le st.nx σ0 st (I x0)) (hrh : ∀ h, rh = some h → h < st.nx) (hnx : ∀ x, (I x).nx = st.nx + σ0.length)
    (step : ∀ x, Snd P C rh b (I x) (fun e s => match e with
      | .normal => ∃ y σ, Le st.nx σ s (I y) ∧ μ y < μ x
      | .exit id => k (.exit id) s
      | .ret => k .ret s)) : LoopOb P C rh b st k := by
  have rhOk : ∀ {ρ ρ' : Rho} {ro : Option Nat}, Agree ρ ρ' st.nx → RoOk ρ rh ro → RoOk ρ' rh ro := fun {ρ ρ' ro} hag hro => by
    cases rh with
    | none => cases ro <;> exact hro
    | some h =>
      cases ro with
      | none => exact hro
      | some l =>
        obtain ⟨p, h1, h2⟩ := hro
        exact ⟨p, (hag.f h (hrh h rfl)).trans h1, h2⟩
  refine ⟨fun ρ a w Q ro hro hS hk => ?_⟩
  have key : ∀ m x ρ1 a1 w1, μ x = m → RoOk ρ1 rh ro → Sim C ρ1 (I x) a1 w1 → Agree ρ ρ1 st.nx → LoopW (FW ro) P b Q a1 w1 := by
    intro m
    induction m using Nat.strongRecOn with
    | _ m ih =>
      intro x ρ1 a1 w1 hm hro1 hS1 hag1
      have hle0 : st.nx ≤ (I x).nx := by rw [hnx]; exact Nat.le_add_right _ _
      refine LoopW.round (step x ρ1 a1 w1 _ ro hro1 hS1 ?_)
      intro e s ρ2 a2 w2 hk2 hS2 hag2 hle2
      have hag12 : Agree ρ ρ2 st.nx := hag1.trans hag2 hle0
      cases e with
      | normal =>
        obtain ⟨y, σ, hle, hlt⟩ := hk2
        obtain ⟨hS3, hag3⟩ := hle.sim hS2 (Nat.le_trans hle0 hle2)
        exact ih (μ y) (by omega) y _ a2 w2 rfl (rhOk hag3 (rhOk hag12 hro)) hS3 (hag12.trans hag3 (Nat.le_refl _))
      | exit id => exact hk _ _ _ _ _ hk2 hS2 hag12 (Nat.le_trans hle0 hle2)
      | ret => exact hk _ _ _ _ _ hk2 hS2 hag12 (Nat.le_trans hle0 hle2)
  obtain ⟨hS0, hag0⟩ := h0.sim hS (Nat.le_refl _)
  exact key _ x0 _ a w rfl (rhOk hag0 hro) hS0 hag0

/-- one round more -/
theorem loop_unroll {P : Program} {C : Cx} {rh : Option Nat} {b : Code} {st : St} {k : Ex → St → Prop} (h : Snd P C rh b st (fun e s => match e with
      | .normal => LoopOb P C rh b s k
      | .exit id => k (.exit id) s
      | .ret => k .ret s)) : LoopOb P C rh b st k := by
  refine ⟨fun ρ a w Q ro hro hS hk => LoopW.round (h ρ a w _ ro hro hS ?_)⟩
  intro e s ρ2 a2 w2 hk2 hS2 hag2 hle2
  cases e with
  | normal => exact hk2.h ρ2 a2 w2 Q ro (hro.mono (Ext.of_agree hS.rep hag2)) hS2 fun e st' ρ' a' w' g1 g2 g3 g4 => hk e st' ρ' a' w' g1 g2 (hag2.trans g3 hle2) (Nat.le_trans hle2 g4)
  | exit id => exact hk _ _ _ _ _ hk2 hS2 hag2 hle2
  | ret => exact hk _ _ _ _ _ hk2 hS2 hag2 hle2

end Go.Sx
