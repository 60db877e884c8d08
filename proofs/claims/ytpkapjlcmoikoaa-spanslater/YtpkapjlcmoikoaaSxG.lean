import Derived.Test.YtpkapjlcmoikoaaSxF
set_option linter.all false
/-
  Slices that are cut; addresses of elements; the quiet operations, all.
-/
namespace Go.Sx
open Go

theorem run_sliceBound {P : Program} (w : World) (k : IntKind) (i : Int) (y : Nat) (code : BoundsCode) (h0 : 0 ≤ i) (h1 : i ≤ (y : Int)) : (Instr.sliceBound (.int k i) y code).run P w = .ok i.toNat w := by
  simp [Instr.sliceBound, asIntOf, h0, h1]

def limE (len : E) : Option E → E
  | some c => c
  | none => len
/-- the capacity's end of a slice expression -/
def bTop (len : E) (cap : Option E) : Option SV → Option (List E × E × Option E)
  | some (.int _ m) => some (nonneg m ++ below .leq m (limE len cap), m, some m)
  | some _ => none
  | none => some ([], limE len cap, cap)
def bHi (len hm : E) (mx : Option SV) : Option SV → Option (List E × E)
  | some (.int _ h) => some (nonneg h ++ below .leq h hm, h)
  | some _ => none
  | none => match mx with
    | none => some ([], len)
    | some _ => none
def bLo (h : E) : Option SV → Option (List E × E)
  | some (.int _ l) => some (nonneg l ++ below .leq l h, l)
  | some _ => none
  | none => some ([], .lit 0)
/-- the three bounds of a slice expression: what must hold; from, to, the capacity's end (none: not known) -/
def bnds (len : E) (cap : Option E) (lo hi mx : Option SV) : Option (List E × E × E × Option E) :=
  match bTop len cap mx with
  | none => none
  | some (a0, hm, m) => match bHi len hm mx hi with
    | none => none
    | some (a1, h) => match bLo h lo with
      | none => none
      | some (a2, l) => some (a0 ++ (a1 ++ a2), l, h, m)

def optR (ρ : Rho) : Option SV → Option Value → Prop
  | none, none => True
  | some s, some v => SV.R ρ s v
  | _, _ => False

theorem bTop_ok {P : Program} {ρ : Rho} {len : E} {cap : Option E} {mx : Option SV} {a : List E} {hm : E} {m : Option E} (h : bTop len cap mx = some (a, hm, m)) (ha : astOk a)
    {n c : Nat} (hl : len.i = (n : Int)) (hc : ∀ e, cap = some e → e.i = (c : Int)) (hn : n ≤ c) {vmx : Option Value} (r : optR ρ mx vmx) :
    ∃ mm : Nat, (∀ e, m = some e → e.i = (mm : Int)) ∧ hm.i ≤ (mm : Int) ∧ mm ≤ c ∧ (mx = none → mm = c ∧ (n : Int) ≤ hm.i) ∧
      ((vmx = none ∧ mm = c) ∨ ∃ v, vmx = some v ∧ ∀ (code : BoundsCode) w, (Instr.sliceBound v c code).run P w = .ok mm w) := by
  have lim : (limE len cap).i ≤ (c : Int) ∧ (n : Int) ≤ (limE len cap).i := by
    cases cap with
    | none => simp only [limE]; omega
    | some q => have := hc q rfl; simp only [limE]; omega
  cases mx with
  | none =>
    cases vmx with
    | some v => exact r.elim
    | none =>
      cases h
      exact ⟨c, hc, lim.1, Nat.le_refl _, fun _ => ⟨rfl, lim.2⟩, .inl ⟨rfl, rfl⟩⟩
  | some s =>
    cases vmx with
    | none => exact r.elim
    | some v =>
      cases s with
      | int k q =>
        cases h
        obtain ⟨x1, x2⟩ := astOk_app ha
        have y1 := nonneg_ok x1
        have y2 : hm.i ≤ _ := of_decide_eq_true (below_ok x2)
        simp only [optR, SV.R] at r
        subst r
        refine ⟨hm.i.toNat, fun e he => by cases he; omega, by omega, by omega, fun h => by (cases h), .inr ⟨_, rfl, fun code w => run_sliceBound w k hm.i c _ y1 (by omega)⟩⟩
      | _ => cases h

theorem bHi_ok {P : Program} {ρ : Rho} {len hm : E} {mx hi : Option SV} {a : List E} {h : E} (e : bHi len hm mx hi = some (a, h)) (ha : astOk a) {n mm : Nat} (hl : len.i = (n : Int)) (hm1 : hm.i ≤ (mm : Int)) (hn : mx = none → (n : Int) ≤ hm.i)
    {vhi : Option Value} (r : optR ρ hi vhi) : 0 ≤ h.i ∧ h.i ≤ (mm : Int) ∧ ((vhi = none ∧ mx = none ∧ h.i = n) ∨ ∃ v, vhi = some v ∧ ∀ (code : BoundsCode) w, (Instr.sliceBound v mm code).run P w = .ok h.i.toNat w) := by
  cases hi with
  | none =>
    cases vhi with
    | some v => exact r.elim
    | none =>
      cases mx with
      | some s => cases e
      | none =>
        cases e
        have := hn rfl
        exact ⟨by omega, by omega, .inl ⟨rfl, rfl, hl⟩⟩
  | some s =>
    cases vhi with
    | none => exact r.elim
    | some v =>
      cases s with
      | int k q =>
        cases e
        obtain ⟨x1, x2⟩ := astOk_app ha
        have y1 := nonneg_ok x1
        have y2 : h.i ≤ _ := of_decide_eq_true (below_ok x2)
        simp only [optR, SV.R] at r
        subst r
        exact ⟨y1, by omega, .inr ⟨_, rfl, fun code w => run_sliceBound w k h.i mm _ y1 (by omega)⟩⟩
      | _ => cases e

theorem bLo_ok {P : Program} {ρ : Rho} {h : E} {lo : Option SV} {a : List E} {l : E} (e : bLo h lo = some (a, l)) (ha : astOk a) (h0 : 0 ≤ h.i) {vlo : Option Value} (r : optR ρ lo vlo) :
    0 ≤ l.i ∧ l.i ≤ h.i ∧ ((vlo = none ∧ l.i = 0) ∨ ∃ v, vlo = some v ∧ ∀ (code : BoundsCode) w, (Instr.sliceBound v h.i.toNat code).run P w = .ok l.i.toNat w) := by
  cases lo with
  | none =>
    cases vlo with
    | some v => exact r.elim
    | none => cases e; exact ⟨by simp, by simpa using h0, .inl ⟨rfl, by simp⟩⟩
  | some s =>
    cases vlo with
    | none => exact r.elim
    | some v =>
      cases s with
      | int k q =>
        cases e
        obtain ⟨x1, x2⟩ := astOk_app ha
        have y1 := nonneg_ok x1
        have y2 : l.i ≤ h.i := of_decide_eq_true (below_ok x2)
        simp only [optR, SV.R] at r
        subst r
        exact ⟨y1, y2, .inr ⟨_, rfl, fun code w => run_sliceBound w k l.i _ _ y1 (by omega)⟩⟩
      | _ => cases e

theorem bnds_ok {P : Program} {ρ : Rho} {len : E} {cap : Option E} {lo hi mx : Option SV} {asr : List E} {l h : E} {m : Option E} (hb : bnds len cap lo hi mx = some (asr, l, h, m)) (ha : astOk asr)
    {n c : Nat} (hl : len.i = (n : Int)) (hc : ∀ e, cap = some e → e.i = (c : Int)) (hn : n ≤ c) {vlo vhi vmx : Option Value} (r1 : optR ρ lo vlo) (r2 : optR ρ hi vhi) (r3 : optR ρ mx vmx) (isS : Bool) :
    ∃ mm : Nat, (∀ e, m = some e → e.i = (mm : Int)) ∧ 0 ≤ l.i ∧ l.i ≤ h.i ∧ h.i ≤ (mm : Int) ∧ mm ≤ c ∧ ∀ w, (Instr.sliceBounds isS n c vlo vhi vmx).run P w = .ok (l.i.toNat, h.i.toNat, mm) w := by
  unfold bnds at hb
  split at hb
  · cases hb
  · rename_i a0 hm m' h1
    split at hb
    · cases hb
    · rename_i a1 h' h2
      split at hb
      · cases hb
      · rename_i a2 l' h3
        cases hb
        obtain ⟨x0, x1⟩ := astOk_app ha
        obtain ⟨x1, x2⟩ := astOk_app x1
        obtain ⟨mm, t1, t2, t3, t4, t5⟩ := bTop_ok (P := P) h1 x0 hl hc hn r3
        obtain ⟨u1, u2, u3⟩ := bHi_ok (P := P) h2 x1 hl t2 (fun e => (t4 e).2) r2
        obtain ⟨v1, v2, v3⟩ := bLo_ok (P := P) h3 x2 u1 r1
        refine ⟨mm, t1, v1, v2, u2, t3, fun w => ?_⟩
        rcases t5 with ⟨rfl, rfl⟩ | ⟨vm, rfl, tr⟩
        · rcases u3 with ⟨rfl, _, ur⟩ | ⟨vh, rfl, ur⟩
          · have ur' : h.i.toNat = n := by omega
            rcases v3 with ⟨rfl, vr⟩ | ⟨vl, rfl, vr⟩
            · simp [Instr.sliceBounds, vr, ur']
            · rw [ur'] at vr; simp [Instr.sliceBounds, vr, ur']
          · rcases v3 with ⟨rfl, vr⟩ | ⟨vl, rfl, vr⟩
            · simp [Instr.sliceBounds, vr, ur]
            · simp [Instr.sliceBounds, vr, ur]
        · rcases u3 with ⟨_, e, _⟩ | ⟨vh, rfl, ur⟩
          · subst e
            exact r3.elim
          · rcases v3 with ⟨rfl, vr⟩ | ⟨vl, rfl, vr⟩
            · simp [Instr.sliceBounds, vr, ur, tr]
            · simp [Instr.sliceBounds, vr, ur, tr]

end Go.Sx
namespace Go.Sx
open Go

def sliceQ (P : Program) (H : Heap) (t : TypeId) (x : SV) (lo hi mx : Option SV) : Option QR :=
  match P.underlying t with
  | some (.slice e) => match P.info? e with
    | none => none
    | some i => match x with
      | .sl h k off len cap => match Nat.beq k i.size with
        | false => none
        | true => match bnds len cap lo hi mx with
          | none => none
          | some (a, l, h', m) => match offIdx off l i.size with
            | none => none
            | some off' => some ⟨a, .sl h k off' (minus' h' l) (m.map fun q => minus' q l), none⟩
      | .lit (.slice none 0 0) => match bnds (.lit 0) (some (.lit 0)) lo hi mx with
        | none => none
        | some (a, _, _, _) => some ⟨a, .lit (.slice none 0 0), none⟩
      | _ => none
  | some (.array n e) => match P.info? e with
    | none => none
    | some i => match x with
      | .ptr h (.c o) => match hfind H h with
        | some (_, .cells _ vs) => match Nat.ble (o + n * i.size) vs.length, Nat.ble n 1000000 with
          | true, true => match bnds (.lit n) (some (.lit n)) lo hi mx with
            | none => none
            | some (a, l, h', m) => match offIdx (.c o) l i.size with
              | none => none
              | some off' => some ⟨a, .sl h i.size off' (minus' h' l) (m.map fun q => minus' q l), none⟩
          | _, _ => none
        | _ => none
      | _ => none
  | _ => none

theorem sliceQ_ok {P : Program} {ρ : Rho} {H : Heap} {g : Operand → Value} {o : Oper} {t : TypeId} {x : Operand} {lo hi mx : Option Operand} {f : Operand → SV} {r : QR} {w : World} (hop : o.op = .slice t x lo hi mx) (hR : RO ρ f g)
    (hobj : ∀ h own ob, hfind H h = some (own, ob) → ∃ op, ρ h = some op ∧ ob.R ρ w op) (h : sliceQ P H t (f x) (lo.map f) (hi.map f) (mx.map f) = some r) (ha : astOk r.ast) : QOk P ρ g o r w := by
  have hx := hR x
  have opt : ∀ y : Option Operand, optR ρ (y.map f) (y.map g) := fun y => by cases y <;> simp [optR]; exact hR _
  have ex : ∀ w', (execOp g o).run P w' = ((do pure (.value (← Instr.sliceAt t (g x) (lo.map g) (hi.map g) (mx.map g)))) : Sem Next).run P w' := fun w' => by unfold execOp; simp only [hop]
  unfold sliceQ at h
  split at h
  · rename_i e hu
    split at h
    · cases h
    · rename_i i hi'
      split at h
      · rename_i hd k off len cap hfx
        rw [hfx] at hx
        split at h
        · cases h
        · rename_i hk
          have hk := Nat.eq_of_beq_eq_true hk
          subst hk
          split at h
          · cases h
          · rename_i a l h' m hb
            split at h
            · cases h
            · rename_i off' hoff
              cases h
              simp only [SV.R] at hx
              obtain ⟨hpos, h0, op, oa, c, hp, hgx, hlc, hcm, hcap, hadr⟩ := hx
              obtain ⟨mm, m1, m2, m3, m4, m5, hrun⟩ := bnds_ok (P := P) (n := len.i.toNat) hb ha (Int.toNat_of_nonneg h0).symm hcap hlc (opt lo) (opt hi) (opt mx) true
              obtain ⟨o1, o2⟩ := offIdx_n hoff m2 hpos
              refine ⟨.slice (if mm = l.i.toNat then oa else oa.map (·.add (l.i.toNat * i.size))) (h'.i.toNat - l.i.toNat) (mm - l.i.toNat), ?_, fun w' _ => ?_⟩
              · simp only [SV.R, minus'_i]
                refine ⟨o2, by omega, op, (if mm = l.i.toNat then oa else oa.map (·.add (l.i.toNat * i.size))), mm - l.i.toNat, hp, ?_, by omega, by omega, ?_, fun hc0 => ?_⟩
                · rw [show (h'.i - l.i).toNat = h'.i.toNat - l.i.toNat by omega]
                · intro e he
                  cases m with
                  | none => cases he
                  | some q => cases he; have := m1 q rfl; simp only [minus'_i]; omega
                · obtain ⟨p, hp1, hp2, hp3⟩ := hadr (by omega)
                  refine ⟨p, hp1, ?_, ?_⟩
                  · rw [if_neg (by omega), hp2, o1]
                    simp only [Option.map_some, Addr.add_add']
                  · rw [o1]
                    have : (mm - l.i.toNat) * i.size ≤ (c - l.i.toNat) * i.size := Nat.mul_le_mul_right _ (by omega)
                    have e2 : l.i.toNat * i.size + (c - l.i.toNat) * i.size = c * i.size := by rw [← Nat.add_mul]; congr 1; omega
                    omega
              · rw [ex]
                simp only [hgx, Instr.sliceAt, Instr.slice, Sem.run_bind, run_underlying hu, Result.andThen_ok, hrun, run_size hi', Sem.run_pure]
      · rename_i hfx
        rw [hfx] at hx
        split at h
        · cases h
        · rename_i a l h' m hb
          cases h
          simp only [SV.R] at hx
          obtain ⟨mm, m1, m2, m3, m4, m5, hrun⟩ := bnds_ok (P := P) (n := 0) (c := 0) hb ha (by simp) (fun e he => by cases he; simp) (Nat.le_refl _) (opt lo) (opt hi) (opt mx) true
          refine ⟨_, (by simp only [SV.R]; rfl), fun w' _ => ?_⟩
          rw [ex]
          have e1 : l.i.toNat = 0 := by omega
          have e2 : h'.i.toNat = 0 := by omega
          have e3 : mm = 0 := by omega
          simp only [hx, Instr.sliceAt, Instr.slice, Sem.run_bind, run_underlying hu, Result.andThen_ok, hrun, run_size hi', Sem.run_pure, e1, e2, e3, if_true, Nat.sub_self]
      · cases h
  · rename_i n e hu
    split at h
    · cases h
    · rename_i i hi'
      split at h
      · rename_i hd off hfx
        rw [hfx] at hx
        split at h
        · rename_i own tt vs hf
          split at h
          · rename_i hle hn6
            have hle := Nat.le_of_ble_eq_true hle
            have hn6 := Nat.le_of_ble_eq_true hn6
            split at h
            · cases h
            · rename_i a l h' m hb
              split at h
              · cases h
              · rename_i off' hoff
                cases h
                simp only [SV.R] at hx
                obtain ⟨hpos, p, hp, hgx⟩ := hx
                obtain ⟨op, hop', hob⟩ := hobj _ _ _ hf
                rw [hp] at hop'; cases hop'
                obtain ⟨p', hp', hpn, _⟩ := hob
                cases hp'
                obtain ⟨mm, m1, m2, m3, m4, m5, hrun⟩ := bnds_ok (P := P) (n := n) (c := n) hb ha (by simp) (fun e he => by cases he; simp) (Nat.le_refl _) (opt lo) (opt hi) (opt mx) false
                obtain ⟨o1, o2⟩ := offIdx_n hoff m2 hpos
                refine ⟨.slice (some (if mm = l.i.toNat then p.a.add (Off.c off).n else (p.a.add (Off.c off).n).add (l.i.toNat * i.size))) (h'.i.toNat - l.i.toNat) (mm - l.i.toNat), ?_, fun w' _ => ?_⟩
                · simp only [SV.R, minus'_i]
                  refine ⟨o2, by omega, some p, some (if mm = l.i.toNat then p.a.add (Off.c off).n else (p.a.add (Off.c off).n).add (l.i.toNat * i.size)), mm - l.i.toNat, hp, ?_, by omega, (by simp only [maxLen]; omega), ?_, fun hc0 => ?_⟩
                  · rw [show (h'.i - l.i).toNat = h'.i.toNat - l.i.toNat by omega]
                  · intro e he
                    cases m with
                    | none => cases he
                    | some q => cases he; have := m1 q rfl; simp only [minus'_i]; omega
                  · refine ⟨p, rfl, ?_, ?_⟩
                    · rw [if_neg (by omega), o1]
                      simp only [Addr.add_add']
                    · rw [o1]
                      simp only [Off.n]
                      have : (mm - l.i.toNat) * i.size ≤ (n - l.i.toNat) * i.size := Nat.mul_le_mul_right _ (by omega)
                      have e2 : l.i.toNat * i.size + (n - l.i.toNat) * i.size = n * i.size := by rw [← Nat.add_mul]; congr 1; omega
                      omega
                · rw [ex]
                  simp only [hgx, Instr.sliceAt, Instr.sureAddr, Sem.run_bind, run_underlying hu, Result.andThen_ok, hrun, run_size hi', Sem.run_pure]
          · cases h
        · cases h
      · cases h
  · cases h
end Go.Sx
