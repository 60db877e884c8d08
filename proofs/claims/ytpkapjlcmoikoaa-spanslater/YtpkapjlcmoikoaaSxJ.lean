import Derived.Test.YtpkapjlcmoikoaaSxI
set_option linter.all false
/-
  Stores.
-/
namespace Go.Sx
open Go

theorem setCells_other (b : Nat) : ∀ (vs : List Value) (o : Nat) (w : World) (b' : Nat), b' ≠ b → (w.setCells b o vs).heap[b']? = w.heap[b']?
  | [], _, _, _, _ => rfl
  | v :: r, o, w, b', h => by
    rw [World.setCells, setCells_other b r _ _ b' h]
    exact RowKit.Below.heap_setCell w ⟨b, o, none⟩ v b' h
theorem setCells_same (b : Nat) : ∀ (vs : List Value) (o : Nat) (w : World), (w.setCells b o vs).heap.size = w.heap.size ∧ (w.setCells b o vs).os = w.os ∧ (w.setCells b o vs).tape = w.tape ∧ (w.setCells b o vs).output = w.output
  | [], _, _ => ⟨rfl, rfl, rfl, rfl⟩
  | v :: r, o, w => by
    rw [World.setCells]
    obtain ⟨h1, h2, h3, h4⟩ := setCells_same b r (o + 1) (w.setCell ⟨b, o, none⟩ v)
    exact ⟨by rw [h1]; simp, h2, h3, h4⟩
theorem setCells_own {p : Pl} : ∀ (vs : List Value) (o : Nat) (w : World), OwnBlock w p → OwnBlock (w.setCells p.a.block o vs) p
  | [], _, _, h => h
  | v :: r, o, w, h => by
    rw [World.setCells]
    refine setCells_own r (o + 1) _ ?_
    obtain ⟨c, t, h1, h2, h3⟩ := h
    refine ⟨c.setIfInBounds o v, t, ?_, by simpa using h2, h3⟩
    simp only [World.setCell, Array.getElem?_modify, if_true, h1, Option.map_some]
    simp

def iteSV (c : E) (a b : SV) : SV :=
  match c with
  | .bl true => a
  | .bl false => b
  | c => match a, b with
    | .int k x, .int k' y => match decide (k = k') with
      | true => .int k (ite' c x y)
      | false => .any
    | .bool x, .bool y => .bool (ite' c x y)
    | _, _ => .any
theorem iteSV_R {ρ : Rho} {c : E} {a b : SV} {v : Value} (h1 : c.b = true → SV.R ρ a v) (h2 : c.b = false → SV.R ρ b v) : SV.R ρ (iteSV c a b) v := by
  unfold iteSV
  split
  · exact h1 rfl
  · exact h2 rfl
  · split
    · split
      · rename_i k x k' y hk
        have hk := of_decide_eq_true hk
        subst hk
        simp only [SV.R, ite'_i] at h1 h2 ⊢
        cases hc : c.b with
        | true => simp [h1 hc]
        | false => simp [h2 hc]
      · simp only [SV.R]
    · simp only [SV.R, ite'_b] at h1 h2 ⊢
      cases hc : c.b with
      | true => simp [h1 hc]
      | false => simp [h2 hc]
    · simp only [SV.R]

def rowPut (F : Nat → E → SV) (i : E) (j : Nat) (l : List SV) : Nat → E → SV := fun q e =>
  match Nat.ble j q, Nat.blt q (j + l.length) with
  | true, true => iteSV (cmp' .eql e i) (getT l (q - j)) (F q e)
  | _, _ => F q e
def Ob.puts (ob : Ob) (off : Off) (l : List SV) : Option (List E × Ob) :=
  match ob with
  | .cells t vs => match off with
    | .c n => match Nat.ble (n + l.length) vs.length with
      | true => some ([], .cells t (setAll vs n l))
      | false => none
    | .ix .. => none
  | .row t k m F => match off with
    | .ix i k' j => match Nat.beq k k', Nat.ble (j + l.length) k with
      | true, true => some (below .lss i m, .row t k m (rowPut F i j l))
      | _, _ => none
    | .c q => match Nat.blt 0 k, Nat.ble (q % k + l.length) k with
      | true, true => some (below .lss (.lit (q / k : Nat)) m, .row t k m (rowPut F (.lit (q / k : Nat)) (q % k) l))
      | true, false => match m with
        | .lit N => match Nat.beq q 0, Nat.beq l.length (N.toNat * k) with
          | true, true => some ([], .cells t l)
          | _, _ => none
        | _ => none
      | _, _ => none
  | _ => none

theorem setAll_get : ∀ (l : List SV) (cells : List SV) (n j : Nat), (setAll cells n l)[j]? = if n ≤ j ∧ j < n + l.length ∧ j < cells.length then l[j - n]? else cells[j]?
  | [], cells, n, j => by simp [setAll]; omega
  | s :: l, cells, n, j => by
    rw [setAll, setAll_get l, setT_eq]
    simp only [List.length_set, List.length_cons, List.getElem?_set]
    by_cases h1 : n = j
    · subst h1
      by_cases h2 : n < cells.length <;> simp [h2]
      all_goals (try omega)
    · by_cases h2 : n + 1 ≤ j ∧ j < n + 1 + l.length ∧ j < cells.length
      · rw [if_pos h2, if_pos (by omega)]
        rw [show j - n = (j - (n + 1)) + 1 by omega, List.getElem?_cons_succ]
      · rw [if_neg h2, if_neg h1, if_neg (by omega)]

theorem row_ne {i i' k j j' : Nat} (hj : j < k) (hj' : j' < k) (h : i ≠ i') (h2 : i * k + j = i' * k + j') : False := by
  rcases Nat.lt_or_gt_of_ne h with h1 | h1
  · have : (i + 1) * k ≤ i' * k := Nat.mul_le_mul_right _ h1
    rw [Nat.add_mul] at this
    omega
  · have : (i' + 1) * k ≤ i * k := Nat.mul_le_mul_right _ h1
    rw [Nat.add_mul] at this
    omega

/-- what a row reads behind a store into one of its elements -/
theorem rowPut_R {ρ : Rho} {w w' : World} {t : TypeId} {k : Nat} {m : E} {F : Nat → E → SV} {p : Pl} (ho : Ob.R ρ w (.row t k m F) (some p)) {i : E} {j : Nat} {l : List SV} {vs : List Value} (hl : SV.RL ρ l vs) (hone : ∀ v ∈ vs, v.oneCell' = true) (hi0 : 0 ≤ i.i)
    (hj : j + l.length ≤ k) (hin : ∀ q x, vs[q]? = some x → w'.cell? (p.a.add (i.i.toNat * k + j + q)) = some x)
    (hout : ∀ n, (n < i.i.toNat * k + j ∨ i.i.toNat * k + j + vs.length ≤ n) → w'.cell? (p.a.add n) = w.cell? (p.a.add n)) : Ob.R ρ w' (.row t k m (rowPut F i j l)) (some p) := by
  obtain ⟨hm, hc⟩ := ho
  refine ⟨hm, fun e q h1 h2 h3 => ?_⟩
  obtain ⟨p', x, hp', hcx, hox, hr⟩ := hc e q h1 h2 h3
  cases hp'
  have hlen := RL_length hl
  by_cases he : e.i = i.i
  · by_cases hq : j ≤ q ∧ q < j + l.length
    · have hs : l[q - j]? = some (l[q - j]'(by omega)) := List.getElem?_eq_getElem (by omega)
      obtain ⟨y, hy, hry⟩ := RL_get hl _ _ hs
      refine ⟨p, y, rfl, ?_, hone y (List.mem_of_getElem? hy), ?_⟩
      · have := hin _ _ hy
        rwa [show i.i.toNat * k + j + (q - j) = e.i.toNat * k + q by rw [he]; omega] at this
      · unfold rowPut
        have b1 : Nat.ble j q = true := Nat.ble_eq_true_of_le hq.1
        have b2 : Nat.blt q (j + l.length) = true := Nat.ble_eq_true_of_le hq.2
        rw [b1, b2]
        refine iteSV_R (fun _ => ?_) (fun hc => ?_)
        · rw [getT_eq, List.getD, hs]; exact hry
        · rw [cmp'_b] at hc; simp [cmpD, he] at hc
    · refine ⟨p, x, rfl, ?_, hox, ?_⟩
      · rw [hout _ (by rw [he]; omega)]; exact hcx
      · unfold rowPut
        split
        · rename_i b1 b2
          have b1 := Nat.le_of_ble_eq_true b1
          have b2 : q < j + l.length := Nat.le_of_ble_eq_true b2
          exact absurd ⟨b1, b2⟩ hq
        · exact hr
  · have hne : e.i.toNat ≠ i.i.toNat := by omega
    refine ⟨p, x, rfl, ?_, hox, ?_⟩
    · rw [hout _ ?_]
      · exact hcx
      · rcases Nat.lt_or_gt_of_ne hne with h4 | h4
        · left
          have : (e.i.toNat + 1) * k ≤ i.i.toNat * k := Nat.mul_le_mul_right _ h4
          rw [Nat.add_mul] at this
          omega
        · right
          have : (i.i.toNat + 1) * k ≤ e.i.toNat * k := Nat.mul_le_mul_right _ h4
          rw [Nat.add_mul] at this
          omega
    · unfold rowPut
      split
      · refine iteSV_R (fun hc => ?_) (fun _ => hr)
        rw [cmp'_b] at hc; simp [cmpD, he] at hc
      · exact hr

theorem puts_R {ρ : Rho} {w : World} {ob ob' : Ob} {p : Pl} {off : Off} {l : List SV} {asr : List E} (ho : ob.R ρ w (some p)) (hpos : off.pos) (h : ob.puts off l = some (asr, ob')) (ha : astOk asr) {vs : List Value} (hl : SV.RL ρ l vs) (hone : ∀ v ∈ vs, v.oneCell' = true) (hspot : p.a.spot = none) :
    (∀ j, j < vs.length → (w.cell? ⟨p.a.block, p.a.off + off.n + j, none⟩).isSome = true) ∧ ob'.R ρ (w.setCells p.a.block (p.a.off + off.n) vs) (some p) := by
  have hlen := RL_length hl
  have hadd : ∀ n, p.a.add n = ⟨p.a.block, p.a.off + n, none⟩ := fun n => by
    have h1 := Addr.add_block p.a n
    have h2 := Addr.add_off p.a n
    have h3 := Addr.add_spot hspot n
    cases hh : p.a.add n
    simp_all
  suffices hex : (∀ j, j < vs.length → (w.cell? (p.a.add (off.n + j))).isSome = true) ∧ ((∀ q x, vs[q]? = some x → (w.setCells p.a.block (p.a.off + off.n) vs).cell? (p.a.add (off.n + q)) = some x) →
      (∀ n, (n < off.n ∨ off.n + vs.length ≤ n) → (w.setCells p.a.block (p.a.off + off.n) vs).cell? (p.a.add n) = w.cell? (p.a.add n)) → ob'.R ρ (w.setCells p.a.block (p.a.off + off.n) vs) (some p)) by
    obtain ⟨h1, h2⟩ := hex
    have h1' : ∀ j, j < vs.length → (w.cell? ⟨p.a.block, p.a.off + off.n + j, none⟩).isSome = true := fun j hj => by
      have := h1 j hj
      rwa [hadd, ← Nat.add_assoc] at this
    refine ⟨h1', h2 (fun q x hq => ?_) (fun n hn => ?_)⟩
    · have hql : q < vs.length := (List.getElem?_eq_some_iff.1 hq).1
      have := World.cell?_setCells_in p.a.block vs (p.a.off + off.n) w h1' q hql
      rw [hadd, ← Nat.add_assoc, this]
      rw [← hq, List.getElem?_eq_getElem hql]
    · rw [hadd]
      exact World.cell?_setCells_out _ _ _ _ _ (fun _ _ => by simp only; omega)
  cases ob with
  | cells t cs =>
    obtain ⟨p', hp', hpn, hc⟩ := ho
    cases hp'
    simp only [Ob.puts] at h
    split at h
    · rename_i n
      split at h
      · rename_i hle
        cases h
        have hle := Nat.le_of_ble_eq_true hle
        refine ⟨fun j hj => ?_, fun hin hout => ⟨p, rfl, by rw [setAll_length]; exact hpn, fun j s hs => ?_⟩⟩
        · obtain ⟨x, hx, _⟩ := hc (n + j) _ (List.getElem?_eq_getElem (by omega))
          simp only [Off.n]
          rw [hx]; rfl
        · rw [setAll_get] at hs
          split at hs
          · rename_i hj
            obtain ⟨x, hx, hr⟩ := RL_get hl _ _ hs
            refine ⟨x, ?_, hone x (List.mem_of_getElem? hx), hr⟩
            have := hin _ _ hx
            simp only [Off.n] at this
            rwa [show n + (j - n) = j by omega] at this
          · rename_i hj
            obtain ⟨x, hx, hox, hr⟩ := hc j s hs
            refine ⟨x, ?_, hox, hr⟩
            rw [hout]
            · exact hx
            · have : j < cs.length := (List.getElem?_eq_some_iff.1 hs).1
              simp only [Off.n]
              omega
      · cases h
    · cases h
  | row t k m F =>
    have ho' := ho
    obtain ⟨hm, hc⟩ := ho
    simp only [Ob.puts] at h
    split at h
    · rename_i i k' j
      split at h
      · rename_i hk hj
        cases h
        have hk := Nat.eq_of_beq_eq_true hk
        subst hk
        have hj := Nat.le_of_ble_eq_true hj
        have hlt : i.i < m.i := of_decide_eq_true (below_ok ha)
        simp only [Off.pos] at hpos
        refine ⟨fun q hq => ?_, fun hin hout => rowPut_R ho' hl hone hpos hj (fun q x hq => ?_) (fun n hn => ?_)⟩
        · obtain ⟨p', x, hp', h1, _⟩ := hc i (j + q) hpos hlt (by omega)
          cases hp'
          simp only [Off.n, Nat.add_assoc]
          rw [h1]; rfl
        · have := hin q x hq
          simpa only [Off.n] using this
        · exact hout n (by simpa only [Off.n] using hn)
      · cases h
    · rename_i q
      split at h
      · rename_i hk hj
        cases h
        have hk : 1 ≤ k := by simpa [Nat.blt] using hk
        have hj := Nat.le_of_ble_eq_true hj
        have hlt : ((q / k : Nat) : Int) < m.i := of_decide_eq_true (below_ok ha)
        have eo : q / k * k + q % k = q := by
          have := Nat.div_add_mod q k
          rw [Nat.mul_comm] at this
          exact this
        have hpos' : 0 ≤ (E.lit (q / k : Nat)).i := Int.natCast_nonneg _
        have et : (E.lit (q / k : Nat)).i.toNat = q / k := Int.toNat_natCast _
        refine ⟨fun r hr => ?_, fun hin hout => rowPut_R ho' hl hone hpos' hj (fun r x hr => ?_) (fun n hn => ?_)⟩
        · obtain ⟨p', x, hp', h1, _⟩ := hc (.lit (q / k : Nat)) (q % k + r) hpos' hlt (by omega)
          cases hp'
          rw [et, ← Nat.add_assoc, eo] at h1
          simp only [Off.n]
          rw [h1]; rfl
        · have := hin r x hr
          rw [et, eo]
          simpa only [Off.n] using this
        · rw [et, eo] at hn
          exact hout n (by simpa only [Off.n] using hn)
      · rename_i hk _
        have hk : 1 ≤ k := by simpa [Nat.blt] using hk
        split at h
        · rename_i N
          split at h
          · rename_i hq hlN
            cases h
            have hq := Nat.eq_of_beq_eq_true hq
            have hlN := Nat.eq_of_beq_eq_true hlN
            subst hq
            refine ⟨fun r hr => ?_, fun hin hout => ⟨p, rfl, ?_, fun j s hs => ?_⟩⟩
            · have hr' : r < N.toNat * k := by omega
              have hdm := Nat.div_add_mod r k
              have hmod : r % k < k := Nat.mod_lt _ hk
              have hlt : r / k < N.toNat := Nat.div_lt_of_lt_mul (by rw [Nat.mul_comm]; exact hr')
              obtain ⟨p', x, hp', h1, _⟩ := hc (.lit (r / k : Nat)) (r % k) (Int.natCast_nonneg _) (by simp only [E.i_lit]; clear hdm hmod hc hm hr' hr; generalize r / k = D at hlt ⊢; omega) hmod
              cases hp'
              have : (E.lit (r / k : Nat)).i.toNat * k + r % k = (Off.c 0).n + r := by
                simp only [E.i_lit, Off.n, Int.toNat_natCast]
                rw [Nat.mul_comm] at hdm
                omega
              rw [← this, h1]; rfl
            · have := hm.2 p rfl
              simp only [E.i_lit] at this
              omega
            · obtain ⟨x, hx, hr⟩ := RL_get hl j s hs
              have := hin j x hx
              simp only [Off.n, Nat.zero_add] at this
              exact ⟨x, this, hone x (List.mem_of_getElem? hx), hr⟩
          · cases h
        · cases h
      · cases h
  | loop => cases h
  | dfr => cases h
theorem puts_own {w w' : World} {p : Pl} {ob ob' : Ob} {off : Off} {l : List SV} {a : List E} (h : ob.puts off l = some (a, ob')) : (ob.own w p → OwnBlock w p) ∧ (OwnBlock w' p → ob'.own w' p) := by
  unfold Ob.puts at h
  split at h
  · refine ⟨id, fun hh => ?_⟩
    repeat' split at h
    all_goals first | cases h | skip
    exact hh
  · refine ⟨id, fun hh => ?_⟩
    repeat' split at h
    all_goals first | (cases h; done) | (cases h; exact hh)
  · cases h

def storeN (P : Program) (H : Heap) (nx : Nat) (t : TypeId) (a x : SV) : Option NR :=
  match a with
  | .ptr h off => match hfind H h with
    | some (true, ob) => match x.cellsO, P.info? t with
      | some l, some i => match Nat.beq l.length i.size, ob.puts off l with
        | true, some (asr, ob') => some ⟨asr, .any, hset H h (true, ob'), nx, [h]⟩
        | _, _ => none
      | _, _ => none
    | _ => none
  | _ => none

theorem storeN_ok {P : Program} {C : Cx} {ρ : Rho} {H : Heap} {nx : Nat} {g : Operand → Value} {o : Oper} {f : Operand → SV} {r : NR} {w : World} {t : TypeId} {a x : Operand} (hop : o.op = .store t a x) (hR : RO ρ f g) (R : Rep C ρ H nx w)
    (h : storeN P H nx t (f a) (f x) = some r) (ha : astOk r.ast) : NOk P C ρ nx g o r w := by
  have hga := hR a
  have hgx := hR x
  unfold storeN at h
  split at h
  · rename_i hd off hfa
    rw [hfa] at hga
    split at h
    · rename_i ob hf
      split at h
      · rename_i l i hl hi
        split at h
        · rename_i asr ob' hsz hputs
          cases h
          have hsz := Nat.eq_of_beq_eq_true hsz
          simp only [SV.R] at hga
          obtain ⟨hpos, p, hp, hga⟩ := hga
          obtain ⟨hrl, hone⟩ := cellsO_R hgx hl
          have hob := hfind_cell R hf hp
          obtain ⟨hown0, hB⟩ := R.own _ _ _ hf hp
          have hown := (puts_own (w := w) (w' := w) (p := p) hputs).1 hown0
          have hown' := hown
          obtain ⟨c, t', hb1, hb2, hspot⟩ := hown'
          obtain ⟨hex, hnew⟩ := puts_R hob hpos hputs ha hrl (RL_one hrl hone) hspot
          have hlen := RL_length hrl
          have hfr : ∀ j, j < (g x).cells.toList.length → w.frozen? ⟨p.a.block, p.a.off + off.n + j, none⟩ = false := fun j _ => by
            simp only [World.frozen?, hb1]
            simp
          have hrun := run_storeCells_cells (P := P) p.a.block (p.a.off + off.n) (g x).cells.toList 0 w (by simpa using hex) (by simpa using hfr) (RL_one hrl hone)
          obtain ⟨s1, s2, s3, s4⟩ := setCells_same p.a.block (g x).cells.toList (p.a.off + off.n) w
          have hadr : p.a.add off.n = ⟨p.a.block, p.a.off + off.n, none⟩ := by
            have h1 := Addr.add_block p.a off.n
            have h2 := Addr.add_off p.a off.n
            have h3 := Addr.add_spot hspot off.n
            cases hh : p.a.add off.n
            simp_all
          refine ⟨undef, w.setCells p.a.block (p.a.off + off.n) (g x).cells.toList, ρ, ⟨Agree.refl _ _, rfl⟩, Nat.le_refl _,
            R.write hf hp (fun b hb => setCells_other _ _ _ _ b hb) s1 ((puts_own (w := w) hputs).2 (setCells_own _ _ _ hown)) s2 s3 s4 hnew, SV.R_any _ _, .inr ⟨?_, rfl⟩, fun b hb hw => setCells_other _ _ _ _ b (fun e => hw hd p (by simp) hp e.symm)⟩
          unfold execOp
          have hsz' : (g x).cells.size = i.size := by simpa using hlen.symm.trans hsz
          simp only [hop, hga, Instr.storeAt, Instr.sureAddr, storeVar, Sem.run_bind, Sem.run_pure, Result.andThen_ok, run_size hi, hsz', ne_eq, not_true_eq_false, if_false, hadr]
          simp only [Nat.add_zero] at hrun
          simp only [hrun, Result.andThen_ok]
        · cases h
      · cases h
    · cases h
  · cases h

end Go.Sx
