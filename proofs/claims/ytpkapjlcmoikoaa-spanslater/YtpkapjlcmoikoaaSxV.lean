import Derived.Test.YtpkapjlcmoikoaaSxU
set_option linter.all false
/-
  A contract that is proved in a heap of what the function reads alone, taken up in any heap.
-/
namespace Go.Sx
open Go

/-- what a call hands back: a value without handles; a value that names a new row -/
inductive Out where
  | val (s : SV)
  | row (mk : Nat → SV) (t : TypeId) (k : Nat) (n : E) (F : Nat → E → SV)
  | sub (i k : Nat) (o : Off) (len : E)
def Out.fits (nx : Nat) (s : SV) (H : Heap) : Out → Prop
  | .val s0 => s = s0
  | .row mk t k n F => ∃ h, nx ≤ h ∧ s = mk h ∧ hfind H h = some (true, .row t k n F)
  | .sub i k o len => i < nx ∧ s = .sl i k o len none
/-- a value without handles -/
def Plain (s : SV) : Prop := ∀ ρ ρ' v, SV.R ρ s v → SV.R ρ' s v
mutual
def plainB : SV → Bool
  | .int .. | .bool .. | .lit .. | .any => true
  | .fn _ a b => plainL a && plainL b
  | .agg l => plainL l
  | .tup l => plainL l
  | _ => false
def plainL : List SV → Bool
  | [] => true
  | a :: r => plainB a && plainL r
end
mutual
theorem plain_R (ρ ρ' : Rho) : ∀ (s : SV) (v : Value), plainB s = true → SV.R ρ s v → SV.R ρ' s v
  | .int _ _, v, _, h => by simpa only [SV.R] using h
  | .bool _, v, _, h => by simpa only [SV.R] using h
  | .lit _, v, _, h => by simpa only [SV.R] using h
  | .any, v, _, h => by simp only [SV.R]
  | .fn _ a b, v, hp, h => by
    simp only [plainB, Bool.and_eq_true] at hp
    simp only [SV.R] at h ⊢
    obtain ⟨x, y, h1, h2, h3⟩ := h
    exact ⟨x, y, h1, plain_RL ρ ρ' a _ hp.1 h2, plain_RL ρ ρ' b _ hp.2 h3⟩
  | .agg l, v, hp, h => by
    simp only [plainB] at hp
    simp only [SV.R] at h ⊢
    obtain ⟨x, h1, h2⟩ := h
    exact ⟨x, h1, plain_RL ρ ρ' l _ hp h2⟩
  | .tup l, v, hp, h => by
    simp only [plainB] at hp
    simp only [SV.R] at h ⊢
    obtain ⟨x, h1, h2⟩ := h
    exact ⟨x, h1, plain_RL ρ ρ' l _ hp h2⟩
  | .ptr _ _, _, hp, _ => by simp [plainB] at hp
  | .sl _ _ _ _ _, _, hp, _ => by simp [plainB] at hp
  | .mp _, _, hp, _ => by simp [plainB] at hp
  | .yl _, _, hp, _ => by simp [plainB] at hp
theorem plain_RL (ρ ρ' : Rho) : ∀ (l : List SV) (v : List Value), plainL l = true → SV.RL ρ l v → SV.RL ρ' l v
  | [], [], _, _ => by simp [SV.RL]
  | [], _ :: _, _, h => by simp [SV.RL] at h
  | _ :: _, [], _, h => by simp [SV.RL] at h
  | a :: r, v :: vs, hp, h => by
    simp only [plainL, Bool.and_eq_true] at hp
    simp only [SV.RL] at h ⊢
    exact ⟨plain_R ρ ρ' a v hp.1 h.1, plain_RL ρ ρ' r vs hp.2 h.2⟩
end
theorem plain_of {s : SV} (h : plainB s = true) : Plain s := fun ρ ρ' v hr => plain_R ρ ρ' s v h hr
def Out.plain : Out → Prop
  | .val s => Plain s
  | .row mk _ k _ F => (∀ (ρ ρ' : Rho) h h' v, ρ' h' = ρ h → SV.R ρ (mk h) v → SV.R ρ' (mk h') v) ∧ ∀ j e, j < k → Plain (F j e)
  | .sub .. => True
/-- the contract -/
def Spec (P : Program) (f : FuncId) (args : List SV) (H : Heap) (nx : Nat) (Post : Out → Prop) : Prop :=
  ∀ C, CallOb P C f args H nx fun s H' _ => ∃ out, Post out ∧ out.fits nx s H'

theorem Spec.mono {P : Program} {f : FuncId} {args : List SV} {H : Heap} {nx : Nat} {A B : Out → Prop} (h : Spec P f args H nx A) (k : ∀ out, A out → B out) : Spec P f args H nx B := fun C => (h C).mono fun _ _ _ ⟨out, h1, h2⟩ => ⟨out, k out h1, h2⟩
theorem hle_obj {σ : List Src} {ρ : Rho} {H T : Heap} {nx : Nat} {w : World} {C : Cx} (R : Rep C ρ H nx w) (h : Hle (srcOf 0 σ) H T) : ∀ i own o, hfind T i = some (own, o) → ∃ op, rhoOf 0 σ ρ i = some op ∧ o.R (rhoOf 0 σ ρ) w op := by
  intro i own o hf
  rcases Hle_find h hf with ⟨g, own', o', h1, h2, _, h4⟩ | ⟨h1, t, k, n, F, rfl, hn⟩
  · obtain ⟨op, g1, g2⟩ := R.obj g own' o' h2
    exact ⟨op, (rhoOf_of h1).trans g1, Oble_R h4 g2⟩
  · exact ⟨none, rhoOf_nil h1, ⟨by rw [hn]; exact Int.le_refl _, fun p hp => by cases hp⟩, fun e j e1 e2 => by rw [hn] at e2; omega⟩

def readOnly (H : Heap) : Bool := H.all fun x => !x.2.1

theorem Spec.call {P : Program} {C : Cx} {f : FuncId} {args0 args : List SV} {H0 H : Heap} {nx0 nx : Nat} {Post : Out → Prop} {k : SV → Heap → Nat → Prop} (h : Spec P f args0 H0 nx0 Post) (σ : List Src) (hσ : σ.length = nx0) (hro : readOnly H0 = true)
    (ha : SVleL (srcOf 0 σ) args args0) (hH : Hle (srcOf 0 σ) H H0) (hp : ∀ out, Post out → out.plain)
    (hk : ∀ out, Post out → match out with
      | .val s => k s H nx
      | .row mk t kk n F => k (mk nx) ((nx, true, .row t kk n F) :: H) (nx + 1)
      | .sub i kk o len => match σ[i]? with
        | some (.of g) => k (.sl g kk o len none) H nx
        | _ => False) : CallOb P C f args H nx k := by
  refine ⟨fun ρ vs w R ro hargs hrep hR => ?_⟩
  have own0 : ∀ {i : Nat} {o : Ob}, hfind H0 i = some (true, o) → False := fun {i o} hf => by
    have := List.all_eq_true.1 hro _ (hfind_mem hf)
    cases this
  have hrep0 := hrep.marks [] [] (List.nil_sublist _)
  have hx0 : Ext ρ ⟨ρ.f, [], []⟩ := fun _ _ h => h
  have R0 : Rep ⟨w, fun _ => False⟩ (rhoOf 0 σ ⟨ρ.f, [], []⟩) H0 nx0 w := by
    refine ⟨hle_obj hrep0 hH, fun i o p hf => (own0 hf).elim, fun i o i' own' o' p p' _ hf => (own0 hf).elim, fun i hi => ?_, fun i p hp => ?_, Nat.le_refl _, fun _ _ _ => rfl, rfl, rfl, rfl, dfr_nil _ _ _ _⟩
    · have : σ[i]? = none := List.getElem?_eq_none (by omega)
      have h1 : Nat.blt i 0 = false := by cases hb : Nat.blt i 0 with
        | false => rfl
        | true => have := Nat.le_of_ble_eq_true hb; omega
      simp only [rhoOf, srcOf, h1, Nat.sub_zero, this, pickR]
    · unfold rhoOf pickR at hp
      simp only at hp
      split at hp
      · exact hrep.lt _ _ hp
      · cases hp
      · cases hp
  refine (h ⟨w, fun _ => False⟩).h (rhoOf 0 σ ⟨ρ.f, [], []⟩) vs w R ro (SVleL_R _ _ _ ha (RL_mono hx0 _ _ hargs)) R0 ?_
  intro s v H' nx' ρ' w' ⟨out, hpost, hfit⟩ hs hrep' hag _ hle
  have hout := hk out hpost
  have hpl := hp out hpost
  have hgrow : Rep C ρ H nx w' := hrep.grow (fun b hb => hrep'.frame b hb (fun x => x)) hrep'.size hrep'.os hrep'.tape hrep'.output
  cases out with
  | val s0 =>
    simp only [Out.fits] at hfit
    subst hfit
    exact hR _ _ _ _ ρ w' hout (hpl _ _ _ hs) hgrow (Agree.refl _ _) rfl (Nat.le_refl _)
  | sub i kk o len =>
    obtain ⟨hi, rfl⟩ := hfit
    simp only at hout
    split at hout
    · rename_i g hg
      refine hR _ _ _ _ ρ w' hout ?_ hgrow (Agree.refl _ _) rfl (Nat.le_refl _)
      have e1 : ρ' i = ρ g := by
        rw [hag.f i hi]
        exact rhoOf_of (ρ := ⟨ρ.f, [], []⟩) (by
          have h1 : Nat.blt i 0 = false := by cases hb : Nat.blt i 0 with
            | false => rfl
            | true => have := Nat.le_of_ble_eq_true hb; omega
          simp only [srcOf, h1, Nat.sub_zero, hg])
      simp only [SV.R] at hs ⊢
      rw [← e1]
      exact hs
    · exact hout.elim
  | row mk t kk n F =>
    obtain ⟨g, hg, rfl, hf⟩ := hfit
    obtain ⟨op, g1, g2⟩ := hrep'.obj g true _ hf
    have hnx : ρ nx = none := hrep.fresh nx (Nat.le_refl _)
    have hx := Ext.rset hnx op
    have rnew : rset ρ nx op nx = some op := by simp [rset]
    have rold : ∀ i, i ≠ nx → rset ρ nx op i = ρ i := fun i hne => by simp [rset, hne]
    have old : ∀ i x, hfind H i = some x → i ≠ nx := fun i x hf e => by have := hfind_lt hrep hf; omega
    have place : ∀ p, op = some p → OwnBlock w' p ∧ w.heap.size ≤ p.a.block := fun p hop => by
      subst hop
      obtain ⟨h1, h2⟩ := hrep'.own g _ p hf g1
      exact ⟨h1, h2.resolve_right (fun x => x)⟩
    refine hR _ _ _ _ (rset ρ nx op) w' hout (hpl.1 ρ' _ g nx v (rnew.trans g1.symm) hs) ⟨?_, ?_, ?_, ?_, ?_, hgrow.size, hgrow.frame, hgrow.os, hgrow.tape, hgrow.output, ⟨hgrow.dfr.nd, hgrow.dfr.blk, hgrow.dfr.own, ?_⟩⟩ (Agree.rset ρ (Nat.le_refl _) op) rfl (Nat.le_succ _)
    · intro i own o hi
      rw [hfind_cons] at hi
      split at hi
      · rename_i e
        subst e
        cases hi
        refine ⟨op, rnew, ⟨g2.1, fun e j h1 h2 h3 => ?_⟩⟩
        obtain ⟨p, x, e1, e2, e3, e4⟩ := g2.2 e j h1 h2 h3
        exact ⟨p, x, e1, e2, e3, hpl.2 j e h3 _ _ _ e4⟩
      · obtain ⟨op', h1, h2⟩ := hgrow.obj i own o hi
        exact ⟨op', hx _ _ h1, Ob.R_of_block hx (fun _ _ => rfl) h2⟩
    · intro i o p hi hpp
      rw [hfind_cons] at hi
      split at hi
      · rename_i e
        subst e
        cases hi
        rw [rnew] at hpp
        cases hpp
        obtain ⟨h1, h2⟩ := place p rfl
        exact ⟨h1, .inl (Nat.le_trans hrep.size h2)⟩
      · rw [rold i (old _ _ hi)] at hpp
        exact hgrow.own i o p hi hpp
    · intro i o i' own' o' p p' hne hi hi' hpp hpp'
      rw [hfind_cons] at hi hi'
      split at hi
      · rename_i e
        subst e
        rw [if_neg hne] at hi'
        rw [rnew] at hpp
        cases hpp
        rw [rold i' (old _ _ hi')] at hpp'
        have h1 := (place p rfl).2
        have h2 := hrep.lt i' p' hpp'
        omega
      · split at hi'
        · rename_i e
          subst e
          rw [rnew] at hpp'
          cases hpp'
          rw [rold i (old _ _ hi)] at hpp
          have h1 := (place p' rfl).2
          have h2 := hrep.lt i p hpp
          omega
        · rw [rold i (old _ _ hi)] at hpp
          rw [rold i' (old _ _ hi')] at hpp'
          exact hgrow.sep i o i' own' o' p p' hne hi hi' hpp hpp'
    · intro i hi
      rw [rold i (by omega)]
      exact hrep.fresh i (by omega)
    · intro i p hpp
      by_cases e : i = nx
      · subst e
        rw [rnew] at hpp
        cases hpp
        exact hrep'.lt g p g1
      · rw [rold i e] at hpp
        exact hgrow.lt i p hpp
    · intro b hb i own o p hi hpp
      rw [hfind_cons] at hi
      split at hi
      · rename_i e
        subst e
        cases hi
        rw [rnew] at hpp
        cases hpp
        have h1 := (place p rfl).2
        have h2 := block_lt (hrep.dfr.blk b hb)
        omega
      · rw [rold i (old _ _ hi)] at hpp
        exact hgrow.dfr.sep b hb i own o p hi hpp
end Go.Sx
