import Derived.Test.YtpkapjlcmoikoaaSxH
import Derived.Laws.AppendOwn
set_option linter.all false
/-
  Operations that make blocks, or write into one.
-/
namespace Go.Sx
open Go

structure NR where
  ast : List E
  v : SV
  heap : Heap
  nx : Nat
  wr : List Nat

structure Agree (ρ ρ' : Rho) (nx : Nat) : Prop where
  f : ∀ h, h < nx → ρ' h = ρ h
  o : ρ'.o = ρ.o
theorem Agree.refl (ρ : Rho) (nx : Nat) : Agree ρ ρ nx := ⟨fun _ _ => rfl, rfl⟩
theorem Agree.trans {a b c : Rho} {n m : Nat} (h : Agree a b n) (k : Agree b c m) (hn : n ≤ m) : Agree a c n := ⟨fun i hi => (k.f i (Nat.lt_of_lt_of_le hi hn)).trans (h.f i hi), k.o.trans h.o⟩
theorem Agree.rset (ρ : Rho) {n h : Nat} (hn : n ≤ h) (x : Option Pl) : Agree ρ (rset ρ h x) n := ⟨fun i hi => by
  have e : i ≠ h := by omega
  simp only [Sx.rset, if_neg e], rfl⟩
def NOk (P : Program) (C : Cx) (ρ : Rho) (nx : Nat) (g : Operand → Value) (o : Oper) (r : NR) (w : World) : Prop :=
  ∃ v w' ρ', (Agree ρ ρ' nx ∧ ρ'.d = ρ.d) ∧ nx ≤ r.nx ∧ Rep C ρ' r.heap r.nx w' ∧ SV.R ρ' r.v v ∧
    ((execOp g o).run P w = .ok (.value v) w' ∨ ((execOp g o).run P w = .ok .skip w' ∧ v = undef)) ∧
    (∀ b, b < w.heap.size → (∀ h p, h ∈ r.wr → ρ h = some (some p) → p.a.block ≠ b) → w'.heap[b]? = w.heap[b]?)

theorem Ext.of_agree {C : Cx} {ρ ρ' : Rho} {H : Heap} {nx : Nat} {w : World} (R : Rep C ρ H nx w) (h : Agree ρ ρ' nx) : Ext ρ ρ' := fun i x hi => by
  rcases Nat.lt_or_ge i nx with h1 | h1
  · rw [h.f i h1]; exact hi
  · rw [R.fresh i h1] at hi; cases hi

section
variable {P : Program} {C : Cx} {ρ : Rho} {H : Heap} {nx : Nat} {g : Operand → Value} {o : Oper} {f : Operand → SV} {r : NR} {w : World}

/-- a new block of cells under the next handle -/
theorem nok_alloc (R : Rep C ρ H nx w) {cs : Array Value} {t : TypeId} {ob : Ob} {s : SV} {v : Value}
    (hob : ∀ ρ', Ext ρ ρ' → ρ' nx = some (some ⟨⟨w.heap.size, 0, none⟩, cs.size⟩) → ob.R ρ' (w.alloc (.cells cs t)) (some ⟨⟨w.heap.size, 0, none⟩, cs.size⟩))
    (hv : ∀ ρ', Ext ρ ρ' → ρ' nx = some (some ⟨⟨w.heap.size, 0, none⟩, cs.size⟩) → SV.R ρ' s v)
    (hrun : (execOp g o).run P w = .ok (.value v) (w.alloc (.cells cs t))) {a : List E} : NOk P C ρ nx g o ⟨a, s, (nx, true, ob) :: H, nx + 1, []⟩ w := by
  have hx : Ext ρ (rset ρ nx (some ⟨⟨w.heap.size, 0, none⟩, cs.size⟩)) := Ext.rset (R.fresh nx (Nat.le_refl _)) _
  have hn : rset ρ nx (some ⟨⟨w.heap.size, 0, none⟩, cs.size⟩) nx = some (some ⟨⟨w.heap.size, 0, none⟩, cs.size⟩) := by simp [rset]
  exact ⟨v, _, _, ⟨Agree.rset ρ (Nat.le_refl _) _, rfl⟩, Nat.le_succ _, R.alloc cs t ob (hob _ hx hn), hv _ hx hn, .inl hrun, fun b hb _ => heap_alloc_lt _ _ _ hb⟩

theorem cell_new (w : World) (cs : Array Value) (t : TypeId) (j : Nat) : (w.alloc (.cells cs t)).cell? ((⟨w.heap.size, 0, none⟩ : Addr).add j) = cs[j]? := by
  have : ((⟨w.heap.size, 0, none⟩ : Addr).add j) = ⟨w.heap.size, j, none⟩ := by simp only [Addr.add]; split <;> simp_all
  rw [this, World.cell?_alloc_new]

theorem cells_new {ρ' : Rho} {w : World} {cs : Array Value} {t : TypeId} {vs : List SV} (h : SV.RL ρ' vs cs.toList) (hone : ∀ x ∈ vs, x.one = true) : Ob.R ρ' (w.alloc (.cells cs t)) (.cells t vs) (some ⟨⟨w.heap.size, 0, none⟩, cs.size⟩) := by
  refine ⟨_, rfl, by rw [RL_length h]; simp, fun j s hs => ?_⟩
  obtain ⟨v, h1, h2⟩ := RL_get h j s hs
  exact ⟨v, by rw [cell_new]; simpa using h1, one_cell h2 (hone s (List.mem_of_getElem? hs)), h2⟩

def allocN (P : Program) (H : Heap) (nx : Nat) (t : TypeId) : Option NR :=
  match P.info? t with
  | some i => match zeroL i with
    | some vs => match vs.all SV.one with
      | true => some ⟨[], .ptr nx (.c 0), (nx, true, .cells t vs) :: H, nx + 1, []⟩
      | false => none
    | none => none
  | none => none
theorem allocN_ok {t : TypeId} (hop : o.op = .alloc t) (R : Rep C ρ H nx w) (h : allocN P H nx t = some r) : NOk P C ρ nx g o r w := by
  unfold allocN at h
  split at h
  · rename_i i hi
    split at h
    · rename_i vs hz
      split at h
      · rename_i hall
        cases h
        unfold zeroL at hz
        split at hz
        · rename_i v hv
          cases hz
          refine nok_alloc (cs := v.cells) (t := t) (v := .pointer (some ⟨w.heap.size, 0, none⟩)) R (fun ρ' hx hn => cells_new (map_ofConst0_R ρ' _) (fun x hx => List.all_eq_true.1 hall x hx)) (fun ρ' hx hn => ?_) ?_
          · simp only [SV.R]
            exact ⟨trivial, _, hn, by simp [Off.n, Addr.add]⟩
          · unfold execOp
            simp [hop, Instr.alloc, zeroValue, typeInfo, hi, hv, newVar, newRow]
        · cases hz
      · cases h
    · cases h
  · cases h

def boxN (H : Heap) (nx : Nat) (t : TypeId) (x : SV) : Option NR :=
  match x.cellsO with
  | some l => some ⟨[], .ptr nx (.c 0), (nx, true, .cells t l) :: H, nx + 1, []⟩
  | none => none
theorem boxN_ok {t : TypeId} {x : Operand} (hop : o.op = .box t x) (hR : RO ρ f g) (R : Rep C ρ H nx w) (h : boxN H nx t (f x) = some r) : NOk P C ρ nx g o r w := by
  unfold boxN at h
  split at h
  · rename_i l hl
    cases h
    obtain ⟨h1, hone⟩ := cellsO_R (hR x) hl
    refine nok_alloc (cs := (g x).cells) (t := t) (v := .pointer (some ⟨w.heap.size, 0, none⟩)) R (fun ρ' hx hn => cells_new (RL_mono hx _ _ h1) hone) (fun ρ' hx hn => ?_) ?_
    · simp only [SV.R]
      exact ⟨trivial, _, hn, by simp [Off.n, Addr.add]⟩
    · unfold execOp
      simp [hop, Instr.box, newVar, newRow]
  · cases h

def repeatL (z : List SV) (n : Nat) : List SV := (List.range n).map fun i => getT z (i % z.length)
def buildSliceN (P : Program) (H : Heap) (nx : Nat) (t : TypeId) (len : Nat) (parts : List (Nat × SV)) : Option NR :=
  match P.underlying t with
  | some (.slice e) => match P.info? e with
    | some i => match zeroL i with
      | some z => match Nat.beq z.length i.size, Nat.ble (len * i.size) 10000, Nat.ble len 10000 with
        | true, true, true => match sfill (fun q => some (q * i.size, i.size)) (repeatL z (len * i.size)) parts with
          | some c => match c.all SV.one with
            | true => some ⟨[], .sl nx i.size (.c 0) (.lit len) (some (.lit len)), (nx, true, .cells e c) :: H, nx + 1, []⟩
            | false => none
          | none => none
        | _, _, _ => none
      | none => none
    | none => none
  | _ => none
theorem sfill_length {place : Nat → Option (Nat × Nat)} : ∀ (parts : List (Nat × SV)) (cells c : List SV), sfill place cells parts = some c → c.length = cells.length
  | [], cells, c, h => by cases h; rfl
  | (i, v) :: rest, cells, c, h => by
    simp only [sfill] at h
    split at h
    · cases h
    · split at h
      · cases h
      · split at h
        · rw [sfill_length rest _ _ h, setAll_length]
        · cases h
theorem repeat_R (ρ : Rho) (zv : Array Value) (n : Nat) : SV.RL ρ (repeatL (zv.toList.map ofConst0) n) ((Array.range n).map (zv[· % zv.size]!)).toList := by
  refine RL_of_get (by simp [repeatL]) fun i s v h1 h2 => ?_
  simp only [repeatL, List.getElem?_map] at h1
  simp only [Array.toList_map, Array.toList_range, List.getElem?_map] at h2
  by_cases hi : i < n
  · simp only [List.getElem?_range hi, Option.map_some, Option.some.injEq] at h1 h2
    subst h1; subst h2
    rw [getT_eq]
    simp only [List.length_map, Array.length_toList]
    by_cases hz : i % zv.size < zv.size
    · simp [List.getD, hz, ofConst0_R]
    · simp [List.getD, hz, SV.R]
  · rw [List.getElem?_eq_none (by simpa using hi)] at h1
    cases h1
theorem buildSliceN_ok {t : TypeId} {len : Nat} {parts : Array (Nat × Operand)} (hop : o.op = .buildSlice t len parts) (hR : RO ρ f g) (R : Rep C ρ H nx w)
    (h : buildSliceN P H nx t len (parts.toList.map fun (i, x) => (i, f x)) = some r) : NOk P C ρ nx g o r w := by
  unfold buildSliceN at h
  split at h
  · rename_i e hu
    split at h
    · rename_i i hi
      split at h
      · rename_i z hz
        split at h
        · rename_i hz1 hz2 hz3
          have hz1 := Nat.eq_of_beq_eq_true hz1
          have hz2 := Nat.le_of_ble_eq_true hz2
          have hz3 := Nat.le_of_ble_eq_true hz3
          split at h
          · rename_i c hc
            split at h
            · rename_i hall
              cases h
              unfold zeroL at hz
              split at hz
              · rename_i zv hzv
                cases hz
                obtain ⟨vc, v1, v2⟩ := fill_R _ _ _ _ _ (partsR_map hR parts.toList) (repeat_R ρ zv.cells (len * i.size)) hc
                have hlen : vc.size = len * i.size := by
                  have e1 := RL_length v2
                  rw [sfill_length _ _ _ hc] at e1
                  simp [repeatL] at e1
                  exact e1.symm
                refine nok_alloc (cs := vc) (t := e) (v := .slice (some ⟨w.heap.size, 0, none⟩) len len) R (fun ρ' hx hn => cells_new (RL_mono hx _ _ v2) (fun x hx => List.all_eq_true.1 hall x hx)) (fun ρ' hx hn => ?_) ?_
                · simp only [SV.R]
                  refine ⟨trivial, by simp, _, some ⟨w.heap.size, 0, none⟩, len, hn, by simp, by simp, (by simp only [maxLen]; omega), fun q hq => by cases hq; simp, fun _ => ⟨_, rfl, by simp [Off.n, Addr.add], ?_⟩⟩
                  simp only [Off.n]; omega
                · have hz2' : ¬ (len * i.size > 2 ^ 24) := by omega
                  have v1 : Instr.fill (fun q => some (q * i.size, i.size)) ((Array.range (len * i.size)).map (zv.cells[· % zv.cells.size]!)) (parts.map fun (q, x) => (q, g x)).toList = some vc := by
                    rw [Array.toList_map]; exact v1
                  have run : (Instr.buildSlice t len (parts.map fun (q, x) => (q, g x))).run P w = .ok (.slice (some ⟨w.heap.size, 0, none⟩) len len) (w.alloc (.cells vc e)) := by
                    simp only [Instr.buildSlice, Sem.run_bind, run_underlying hu, Result.andThen_ok, run_size hi, hz2', if_false]
                    by_cases h0 : len * i.size = 0
                    · have ea : ∀ φ : Nat → Value, (Array.range (len * i.size)).map φ = #[] := fun φ => Array.eq_empty_of_size_eq_zero (by simp [h0])
                      rw [ea] at v1
                      rw [if_pos h0]
                      simp only [Sem.run_pure, Result.andThen_ok, ea, v1, newRow, Sem.run_bind, run_newObj]
                      rfl
                    · rw [if_neg h0]
                      have hzr : (zeroValue e).run P w = .ok zv w := by simp [zeroValue, typeInfo, hi, hzv]
                      simp only [Sem.run_bind, hzr, Sem.run_pure, Result.andThen_ok, v1, newRow, run_newObj]
                      rfl
                  unfold execOp
                  simp only [hop, Sem.run_bind, run, Result.andThen_ok, Sem.run_pure]
              · cases hz
            · cases h
          · cases h
        · cases h
      · cases h
    · cases h
  · cases h
end

end Go.Sx
/-
  Stores.
-/
namespace Go.Sx
open Go

theorem setCells_other (b : Nat) : ∀ (vs : List Value) (o : Nat) (w : World) (b' : Nat), b' ≠ b → (w.setCells b o vs).heap[b']? = w.heap[b']?
  | [], _, _, _, _ => rfl
  | v :: r, o, w, b', h => by
    rw [World.setCells, setCells_other b r _ _ b' h]
    exact RowKit.Below.heap_setCell w ⟨b, o, none⟩ v b' h
theorem setCells_same (b : Nat) : ∀ (vs : List Value) (o : Nat) (w : World), (w.setCells b o vs).heap.size = w.heap.size ∧ (w.setCells b o vs).os = w.os ∧ (w.setCells b o vs).tape = w.tape ∧ (w.setCells b o vs).output = w.output
  | [], _, _ => ⟨rfl, rfl, rfl, rfl⟩
  | v :: r, o, w => by
    rw [World.setCells]
    obtain ⟨h1, h2, h3, h4⟩ := setCells_same b r (o + 1) (w.setCell ⟨b, o, none⟩ v)
    exact ⟨by rw [h1]; simp, h2, h3, h4⟩
theorem setCells_own {p : Pl} : ∀ (vs : List Value) (o : Nat) (w : World), OwnBlock w p → OwnBlock (w.setCells p.a.block o vs) p
  | [], _, _, h => h
  | v :: r, o, w, h => by
    rw [World.setCells]
    refine setCells_own r (o + 1) _ ?_
    obtain ⟨c, t, h1, h2, h3⟩ := h
    refine ⟨c.setIfInBounds o v, t, ?_, by simpa using h2, h3⟩
    simp only [World.setCell, Array.getElem?_modify, if_true, h1, Option.map_some]
    simp

def iteSV (c : E) (a b : SV) : SV :=
  match c with
  | .bl true => a
  | .bl false => b
  | c => match a, b with
    | .int k x, .int k' y => match decide (k = k') with
      | true => .int k (ite' c x y)
      | false => .any
    | .bool x, .bool y => .bool (ite' c x y)
    | _, _ => .any
theorem iteSV_R {ρ : Rho} {c : E} {a b : SV} {v : Value} (h1 : c.b = true → SV.R ρ a v) (h2 : c.b = false → SV.R ρ b v) : SV.R ρ (iteSV c a b) v := by
  unfold iteSV
  split
  · exact h1 rfl
  · exact h2 rfl
  · split
    · split
      · rename_i k x k' y hk
        have hk := of_decide_eq_true hk
        subst hk
        simp only [SV.R, ite'_i] at h1 h2 ⊢
        cases hc : c.b with
        | true => simp [h1 hc]
        | false => simp [h2 hc]
      · simp only [SV.R]
    · simp only [SV.R, ite'_b] at h1 h2 ⊢
      cases hc : c.b with
      | true => simp [h1 hc]
      | false => simp [h2 hc]
    · simp only [SV.R]

def rowPut (F : Nat → E → SV) (i : E) (j : Nat) (l : List SV) : Nat → E → SV := fun q e =>
  match Nat.ble j q, Nat.blt q (j + l.length) with
  | true, true => iteSV (cmp' .eql e i) (getT l (q - j)) (F q e)
  | _, _ => F q e
def Ob.puts (ob : Ob) (off : Off) (l : List SV) : Option (List E × Ob) :=
  match ob with
  | .cells t vs => match off with
    | .c n => match Nat.ble (n + l.length) vs.length with
      | true => some ([], .cells t (setAll vs n l))
      | false => none
    | .ix .. => none
  | .row t k m F => match off with
    | .ix i k' j => match Nat.beq k k', Nat.ble (j + l.length) k with
      | true, true => some (below .lss i m, .row t k m (rowPut F i j l))
      | _, _ => none
    | .c q => match Nat.blt 0 k, Nat.ble (q % k + l.length) k with
      | true, true => some (below .lss (.lit (q / k : Nat)) m, .row t k m (rowPut F (.lit (q / k : Nat)) (q % k) l))
      | true, false => match m with
        | .lit N => match Nat.beq q 0, Nat.beq l.length (N.toNat * k) with
          | true, true => some ([], .cells t l)
          | _, _ => none
        | _ => none
      | _, _ => none
  | _ => none

theorem setAll_get : ∀ (l : List SV) (cells : List SV) (n j : Nat), (setAll cells n l)[j]? = if n ≤ j ∧ j < n + l.length ∧ j < cells.length then l[j - n]? else cells[j]?
  | [], cells, n, j => by simp [setAll]; omega
  | s :: l, cells, n, j => by
    rw [setAll, setAll_get l, setT_eq]
    simp only [List.length_set, List.length_cons, List.getElem?_set]
    by_cases h1 : n = j
    · subst h1
      by_cases h2 : n < cells.length <;> simp [h2]
      all_goals (try omega)
    · by_cases h2 : n + 1 ≤ j ∧ j < n + 1 + l.length ∧ j < cells.length
      · rw [if_pos h2, if_pos (by omega)]
        rw [show j - n = (j - (n + 1)) + 1 by omega, List.getElem?_cons_succ]
      · rw [if_neg h2, if_neg h1, if_neg (by omega)]

theorem row_ne {i i' k j j' : Nat} (hj : j < k) (hj' : j' < k) (h : i ≠ i') (h2 : i * k + j = i' * k + j') : False := by
  rcases Nat.lt_or_gt_of_ne h with h1 | h1
  · have : (i + 1) * k ≤ i' * k := Nat.mul_le_mul_right _ h1
    rw [Nat.add_mul] at this
    omega
  · have : (i' + 1) * k ≤ i * k := Nat.mul_le_mul_right _ h1
    rw [Nat.add_mul] at this
    omega

/-- what a row reads behind a store into one of its elements -/
theorem rowPut_R {ρ : Rho} {w w' : World} {t : TypeId} {k : Nat} {m : E} {F : Nat → E → SV} {p : Pl} (ho : Ob.R ρ w (.row t k m F) (some p)) {i : E} {j : Nat} {l : List SV} {vs : List Value} (hl : SV.RL ρ l vs) (hone : ∀ v ∈ vs, v.oneCell' = true) (hi0 : 0 ≤ i.i)
    (hj : j + l.length ≤ k) (hin : ∀ q x, vs[q]? = some x → w'.cell? (p.a.add (i.i.toNat * k + j + q)) = some x)
    (hout : ∀ n, (n < i.i.toNat * k + j ∨ i.i.toNat * k + j + vs.length ≤ n) → w'.cell? (p.a.add n) = w.cell? (p.a.add n)) : Ob.R ρ w' (.row t k m (rowPut F i j l)) (some p) := by
  obtain ⟨hm, hc⟩ := ho
  refine ⟨hm, fun e q h1 h2 h3 => ?_⟩
  obtain ⟨p', x, hp', hcx, hox, hr⟩ := hc e q h1 h2 h3
  cases hp'
  have hlen := RL_length hl
  by_cases he : e.i = i.i
  · by_cases hq : j ≤ q ∧ q < j + l.length
    · have hs : l[q - j]? = some (l[q - j]'(by omega)) := List.getElem?_eq_getElem (by omega)
      obtain ⟨y, hy, hry⟩ := RL_get hl _ _ hs
      refine ⟨p, y, rfl, ?_, hone y (List.mem_of_getElem? hy), ?_⟩
      · have := hin _ _ hy
        rwa [show i.i.toNat * k + j + (q - j) = e.i.toNat * k + q by rw [he]; omega] at this
      · unfold rowPut
        have b1 : Nat.ble j q = true := Nat.ble_eq_true_of_le hq.1
        have b2 : Nat.blt q (j + l.length) = true := Nat.ble_eq_true_of_le hq.2
        rw [b1, b2]
        refine iteSV_R (fun _ => ?_) (fun hc => ?_)
        · rw [getT_eq, List.getD, hs]; exact hry
        · rw [cmp'_b] at hc; simp [cmpD, he] at hc
    · refine ⟨p, x, rfl, ?_, hox, ?_⟩
      · rw [hout _ (by rw [he]; omega)]; exact hcx
      · unfold rowPut
        split
        · rename_i b1 b2
          have b1 := Nat.le_of_ble_eq_true b1
          have b2 : q < j + l.length := Nat.le_of_ble_eq_true b2
          exact absurd ⟨b1, b2⟩ hq
        · exact hr
  · have hne : e.i.toNat ≠ i.i.toNat := by omega
    refine ⟨p, x, rfl, ?_, hox, ?_⟩
    · rw [hout _ ?_]
      · exact hcx
      · rcases Nat.lt_or_gt_of_ne hne with h4 | h4
        · left
          have : (e.i.toNat + 1) * k ≤ i.i.toNat * k := Nat.mul_le_mul_right _ h4
          rw [Nat.add_mul] at this
          omega
        · right
          have : (i.i.toNat + 1) * k ≤ e.i.toNat * k := Nat.mul_le_mul_right _ h4
          rw [Nat.add_mul] at this
          omega
    · unfold rowPut
      split
      · refine iteSV_R (fun hc => ?_) (fun _ => hr)
        rw [cmp'_b] at hc; simp [cmpD, he] at hc
      · exact hr

theorem puts_R {ρ : Rho} {w : World} {ob ob' : Ob} {p : Pl} {off : Off} {l : List SV} {asr : List E} (ho : ob.R ρ w (some p)) (hpos : off.pos) (h : ob.puts off l = some (asr, ob')) (ha : astOk asr) {vs : List Value} (hl : SV.RL ρ l vs) (hone : ∀ v ∈ vs, v.oneCell' = true) (hspot : p.a.spot = none) :
    (∀ j, j < vs.length → (w.cell? ⟨p.a.block, p.a.off + off.n + j, none⟩).isSome = true) ∧ ob'.R ρ (w.setCells p.a.block (p.a.off + off.n) vs) (some p) := by
  have hlen := RL_length hl
  have hadd : ∀ n, p.a.add n = ⟨p.a.block, p.a.off + n, none⟩ := fun n => by
    have h1 := Addr.add_block p.a n
    have h2 := Addr.add_off p.a n
    have h3 := Addr.add_spot hspot n
    cases hh : p.a.add n
    simp_all
  suffices hex : (∀ j, j < vs.length → (w.cell? (p.a.add (off.n + j))).isSome = true) ∧ ((∀ q x, vs[q]? = some x → (w.setCells p.a.block (p.a.off + off.n) vs).cell? (p.a.add (off.n + q)) = some x) →
      (∀ n, (n < off.n ∨ off.n + vs.length ≤ n) → (w.setCells p.a.block (p.a.off + off.n) vs).cell? (p.a.add n) = w.cell? (p.a.add n)) → ob'.R ρ (w.setCells p.a.block (p.a.off + off.n) vs) (some p)) by
    obtain ⟨h1, h2⟩ := hex
    have h1' : ∀ j, j < vs.length → (w.cell? ⟨p.a.block, p.a.off + off.n + j, none⟩).isSome = true := fun j hj => by
      have := h1 j hj
      rwa [hadd, ← Nat.add_assoc] at this
    refine ⟨h1', h2 (fun q x hq => ?_) (fun n hn => ?_)⟩
    · have hql : q < vs.length := (List.getElem?_eq_some_iff.1 hq).1
      have := World.cell?_setCells_in p.a.block vs (p.a.off + off.n) w h1' q hql
      rw [hadd, ← Nat.add_assoc, this]
      rw [← hq, List.getElem?_eq_getElem hql]
    · rw [hadd]
      exact World.cell?_setCells_out _ _ _ _ _ (fun _ _ => by simp only; omega)
  cases ob with
  | cells t cs =>
    obtain ⟨p', hp', hpn, hc⟩ := ho
    cases hp'
    simp only [Ob.puts] at h
    split at h
    · rename_i n
      split at h
      · rename_i hle
        cases h
        have hle := Nat.le_of_ble_eq_true hle
        refine ⟨fun j hj => ?_, fun hin hout => ⟨p, rfl, by rw [setAll_length]; exact hpn, fun j s hs => ?_⟩⟩
        · obtain ⟨x, hx, _⟩ := hc (n + j) _ (List.getElem?_eq_getElem (by omega))
          simp only [Off.n]
          rw [hx]; rfl
        · rw [setAll_get] at hs
          split at hs
          · rename_i hj
            obtain ⟨x, hx, hr⟩ := RL_get hl _ _ hs
            refine ⟨x, ?_, hone x (List.mem_of_getElem? hx), hr⟩
            have := hin _ _ hx
            simp only [Off.n] at this
            rwa [show n + (j - n) = j by omega] at this
          · rename_i hj
            obtain ⟨x, hx, hox, hr⟩ := hc j s hs
            refine ⟨x, ?_, hox, hr⟩
            rw [hout]
            · exact hx
            · have : j < cs.length := (List.getElem?_eq_some_iff.1 hs).1
              simp only [Off.n]
              omega
      · cases h
    · cases h
  | row t k m F =>
    have ho' := ho
    obtain ⟨hm, hc⟩ := ho
    simp only [Ob.puts] at h
    split at h
    · rename_i i k' j
      split at h
      · rename_i hk hj
        cases h
        have hk := Nat.eq_of_beq_eq_true hk
        subst hk
        have hj := Nat.le_of_ble_eq_true hj
        have hlt : i.i < m.i := of_decide_eq_true (below_ok ha)
        simp only [Off.pos] at hpos
        refine ⟨fun q hq => ?_, fun hin hout => rowPut_R ho' hl hone hpos hj (fun q x hq => ?_) (fun n hn => ?_)⟩
        · obtain ⟨p', x, hp', h1, _⟩ := hc i (j + q) hpos hlt (by omega)
          cases hp'
          simp only [Off.n, Nat.add_assoc]
          rw [h1]; rfl
        · have := hin q x hq
          simpa only [Off.n] using this
        · exact hout n (by simpa only [Off.n] using hn)
      · cases h
    · rename_i q
      split at h
      · rename_i hk hj
        cases h
        have hk : 1 ≤ k := by simpa [Nat.blt] using hk
        have hj := Nat.le_of_ble_eq_true hj
        have hlt : ((q / k : Nat) : Int) < m.i := of_decide_eq_true (below_ok ha)
        have eo : q / k * k + q % k = q := by
          have := Nat.div_add_mod q k
          rw [Nat.mul_comm] at this
          exact this
        have hpos' : 0 ≤ (E.lit (q / k : Nat)).i := Int.natCast_nonneg _
        have et : (E.lit (q / k : Nat)).i.toNat = q / k := Int.toNat_natCast _
        refine ⟨fun r hr => ?_, fun hin hout => rowPut_R ho' hl hone hpos' hj (fun r x hr => ?_) (fun n hn => ?_)⟩
        · obtain ⟨p', x, hp', h1, _⟩ := hc (.lit (q / k : Nat)) (q % k + r) hpos' hlt (by omega)
          cases hp'
          rw [et, ← Nat.add_assoc, eo] at h1
          simp only [Off.n]
          rw [h1]; rfl
        · have := hin r x hr
          rw [et, eo]
          simpa only [Off.n] using this
        · rw [et, eo] at hn
          exact hout n (by simpa only [Off.n] using hn)
      · rename_i hk _
        have hk : 1 ≤ k := by simpa [Nat.blt] using hk
        split at h
        · rename_i N
          split at h
          · rename_i hq hlN
            cases h
            have hq := Nat.eq_of_beq_eq_true hq
            have hlN := Nat.eq_of_beq_eq_true hlN
            subst hq
            refine ⟨fun r hr => ?_, fun hin hout => ⟨p, rfl, ?_, fun j s hs => ?_⟩⟩
            · have hr' : r < N.toNat * k := by omega
              have hdm := Nat.div_add_mod r k
              have hmod : r % k < k := Nat.mod_lt _ hk
              have hlt : r / k < N.toNat := Nat.div_lt_of_lt_mul (by rw [Nat.mul_comm]; exact hr')
              obtain ⟨p', x, hp', h1, _⟩ := hc (.lit (r / k : Nat)) (r % k) (Int.natCast_nonneg _) (by simp only [E.i_lit]; clear hdm hmod hc hm hr' hr; generalize r / k = D at hlt ⊢; omega) hmod
              cases hp'
              have : (E.lit (r / k : Nat)).i.toNat * k + r % k = (Off.c 0).n + r := by
                simp only [E.i_lit, Off.n, Int.toNat_natCast]
                rw [Nat.mul_comm] at hdm
                omega
              rw [← this, h1]; rfl
            · have := hm.2 p rfl
              simp only [E.i_lit] at this
              omega
            · obtain ⟨x, hx, hr⟩ := RL_get hl j s hs
              have := hin j x hx
              simp only [Off.n, Nat.zero_add] at this
              exact ⟨x, this, hone x (List.mem_of_getElem? hx), hr⟩
          · cases h
        · cases h
      · cases h
  | loop => cases h
  | dfr => cases h
theorem puts_own {w w' : World} {p : Pl} {ob ob' : Ob} {off : Off} {l : List SV} {a : List E} (h : ob.puts off l = some (a, ob')) : (ob.own w p → OwnBlock w p) ∧ (OwnBlock w' p → ob'.own w' p) := by
  unfold Ob.puts at h
  split at h
  · refine ⟨id, fun hh => ?_⟩
    repeat' split at h
    all_goals first | cases h | skip
    exact hh
  · refine ⟨id, fun hh => ?_⟩
    repeat' split at h
    all_goals first | (cases h; done) | (cases h; exact hh)
  · cases h

def storeN (P : Program) (H : Heap) (nx : Nat) (t : TypeId) (a x : SV) : Option NR :=
  match a with
  | .ptr h off => match hfind H h with
    | some (true, ob) => match x.cellsO, P.info? t with
      | some l, some i => match Nat.beq l.length i.size, ob.puts off l with
        | true, some (asr, ob') => some ⟨asr, .any, hset H h (true, ob'), nx, [h]⟩
        | _, _ => none
      | _, _ => none
    | _ => none
  | _ => none

theorem storeN_ok {P : Program} {C : Cx} {ρ : Rho} {H : Heap} {nx : Nat} {g : Operand → Value} {o : Oper} {f : Operand → SV} {r : NR} {w : World} {t : TypeId} {a x : Operand} (hop : o.op = .store t a x) (hR : RO ρ f g) (R : Rep C ρ H nx w)
    (h : storeN P H nx t (f a) (f x) = some r) (ha : astOk r.ast) : NOk P C ρ nx g o r w := by
  have hga := hR a
  have hgx := hR x
  unfold storeN at h
  split at h
  · rename_i hd off hfa
    rw [hfa] at hga
    split at h
    · rename_i ob hf
      split at h
      · rename_i l i hl hi
        split at h
        · rename_i asr ob' hsz hputs
          cases h
          have hsz := Nat.eq_of_beq_eq_true hsz
          simp only [SV.R] at hga
          obtain ⟨hpos, p, hp, hga⟩ := hga
          obtain ⟨hrl, hone⟩ := cellsO_R hgx hl
          have hob := hfind_cell R hf hp
          obtain ⟨hown0, hB⟩ := R.own _ _ _ hf hp
          have hown := (puts_own (w := w) (w' := w) (p := p) hputs).1 hown0
          have hown' := hown
          obtain ⟨c, t', hb1, hb2, hspot⟩ := hown'
          obtain ⟨hex, hnew⟩ := puts_R hob hpos hputs ha hrl (RL_one hrl hone) hspot
          have hlen := RL_length hrl
          have hfr : ∀ j, j < (g x).cells.toList.length → w.frozen? ⟨p.a.block, p.a.off + off.n + j, none⟩ = false := fun j _ => by
            simp only [World.frozen?, hb1]
            simp
          have hrun := run_storeCells_cells (P := P) p.a.block (p.a.off + off.n) (g x).cells.toList 0 w (by simpa using hex) (by simpa using hfr) (RL_one hrl hone)
          obtain ⟨s1, s2, s3, s4⟩ := setCells_same p.a.block (g x).cells.toList (p.a.off + off.n) w
          have hadr : p.a.add off.n = ⟨p.a.block, p.a.off + off.n, none⟩ := by
            have h1 := Addr.add_block p.a off.n
            have h2 := Addr.add_off p.a off.n
            have h3 := Addr.add_spot hspot off.n
            cases hh : p.a.add off.n
            simp_all
          refine ⟨undef, w.setCells p.a.block (p.a.off + off.n) (g x).cells.toList, ρ, ⟨Agree.refl _ _, rfl⟩, Nat.le_refl _,
            R.write hf hp (fun b hb => setCells_other _ _ _ _ b hb) s1 ((puts_own (w := w) hputs).2 (setCells_own _ _ _ hown)) s2 s3 s4 hnew, SV.R_any _ _, .inr ⟨?_, rfl⟩, fun b hb hw => setCells_other _ _ _ _ b (fun e => hw hd p (by simp) hp e.symm)⟩
          unfold execOp
          have hsz' : (g x).cells.size = i.size := by simpa using hlen.symm.trans hsz
          simp only [hop, hga, Instr.storeAt, Instr.sureAddr, storeVar, Sem.run_bind, Sem.run_pure, Result.andThen_ok, run_size hi, hsz', ne_eq, not_true_eq_false, if_false, hadr]
          simp only [Nat.add_zero] at hrun
          simp only [hrun, Result.andThen_ok]
        · cases h
      · cases h
    · cases h
  · cases h

end Go.Sx
/-
  append.
-/
namespace Go.Sx
open Go

/-- an object may be forgotten -/
theorem Rep.del {C : Cx} {ρ : Rho} {H : Heap} {nx : Nat} {w : World} (R : Rep C ρ H nx w) (h : Nat) : Rep C ρ (hdel H h) nx w := by
  have hs : ∀ i x, hfind (hdel H h) i = some x → hfind H i = some x := fun i x hi => by
    rw [hfind_hdel] at hi
    split at hi
    · cases hi
    · exact hi
  exact ⟨fun i own o hi => R.obj i own o (hs _ _ hi), fun i o p hi => R.own i o p (hs _ _ hi), fun i o i' own' o' p p' hne hi hi' => R.sep i o i' own' o' p p' hne (hs _ _ hi) (hs _ _ hi'), R.fresh, R.lt, R.size, R.frame, R.os, R.tape, R.output, ⟨R.dfr.nd, R.dfr.blk, R.dfr.own, fun b hb i own o p hi hp => R.dfr.sep b hb i own o p (hs _ _ hi) hp⟩⟩

/-- an own object goes on under the next handle, its block turned -/
theorem Rep.move {C : Cx} {ρ : Rho} {H : Heap} {nx : Nat} {w w' : World} (R : Rep C ρ H nx w) {h : Nat} {o o' : Ob} {p p' : Pl} (hf : hfind H h = some (true, o)) (hp : ρ h = some (some p)) (hpp : p'.a.block = p.a.block)
    (hb : ∀ b, b ≠ p.a.block → w'.heap[b]? = w.heap[b]?) (hs : w'.heap.size = w.heap.size) (how : o'.own w' p') (hos : w'.os = w.os) (htape : w'.tape = w.tape) (hout : w'.output = w.output)
    (ho : o'.R (rset ρ nx (some p')) w' (some p')) : Rep C (rset ρ nx (some p')) ((nx, true, o') :: hdel H h) (nx + 1) w' := by
  have hown := (R.own h o p hf hp).2
  have hn : ρ nx = none := R.fresh nx (Nat.le_refl _)
  have hx := Ext.rset hn (some p')
  have rnew : rset ρ nx (some p') nx = some (some p') := by simp [rset]
  have rold : ∀ i, i ≠ nx → rset ρ nx (some p') i = ρ i := fun i hne => by simp [rset, hne]
  have hs' : ∀ i x, hfind (hdel H h) i = some x → hfind H i = some x ∧ h ≠ i := fun i x hi => by
    rw [hfind_hdel] at hi
    split at hi
    · cases hi
    · rename_i e; exact ⟨hi, e⟩
  have old : ∀ i x, hfind H i = some x → i ≠ nx := fun i x hf e => by have := hfind_lt R hf; omega
  refine ⟨?_, ?_, ?_, ?_, ?_, ?_, ?_, hos.trans R.os, htape.trans R.tape, hout.trans R.output, ⟨R.dfr.nd, fun b hb' => ?_, R.dfr.own, fun b hb' i own x q hi hq => ?_⟩⟩
  rotate_left 7
  · rw [hb b (fun e => R.dfr.sep b hb' h true o p hf hp e.symm)]
    exact R.dfr.blk b hb'
  · rw [hfind_cons] at hi
    split at hi
    · rename_i e; subst e; cases hi
      rw [rnew] at hq; cases hq
      rw [hpp]
      exact R.dfr.sep b hb' h true o p hf hp
    · obtain ⟨hi, hne⟩ := hs' _ _ hi
      rw [rold i (old _ _ hi)] at hq
      exact R.dfr.sep b hb' i own x q hi hq
  · intro i own x hi
    rw [hfind_cons] at hi
    split at hi
    · rename_i e; subst e; cases hi; exact ⟨_, rnew, ho⟩
    · obtain ⟨hi, hne⟩ := hs' _ _ hi
      obtain ⟨op, h1, h2⟩ := R.obj i own x hi
      exact ⟨op, hx _ _ h1, Ob.R_of_block hx (fun q hq => hb _ (by subst hq; exact fun e2 => R.sep h o i own x p q hne hf hi hp h1 e2.symm)) h2⟩
  · intro i x q hi hq
    rw [hfind_cons] at hi
    split at hi
    · rename_i e; subst e; cases hi
      rw [rnew] at hq; cases hq
      exact ⟨how, by rw [hpp]; exact hown⟩
    · obtain ⟨hi, hne⟩ := hs' _ _ hi
      rw [rold i (old _ _ hi)] at hq
      obtain ⟨h1, h4⟩ := R.own i x q hi hq
      exact ⟨Ob.own_of_block (hb _ (fun e2 => R.sep h o i true x p q hne hf hi hp hq e2.symm)) h1, h4⟩
  · intro i x i' own' x' q q' hne hi hi' hq hq'
    rw [hfind_cons] at hi hi'
    split at hi
    · rename_i e; subst e; cases hi
      rw [if_neg hne] at hi'
      obtain ⟨hi', hne'⟩ := hs' _ _ hi'
      rw [rnew] at hq; cases hq
      rw [rold i' (old _ _ hi')] at hq'
      rw [hpp]
      exact R.sep h o i' own' x' p q' hne' hf hi' hp hq'
    · obtain ⟨hi, hne1⟩ := hs' _ _ hi
      rw [rold i (old _ _ hi)] at hq
      split at hi'
      · rename_i e; subst e; cases hi'
        rw [rnew] at hq'; cases hq'
        rw [hpp]
        exact R.sep i x h true o q p (Ne.symm hne1) hi hf hq hp
      · obtain ⟨hi', hne2⟩ := hs' _ _ hi'
        rw [rold i' (old _ _ hi')] at hq'
        exact R.sep i x i' own' x' q q' hne hi hi' hq hq'
  · intro i hi; rw [rold i (by omega)]; exact R.fresh i (by omega)
  · intro i q hq
    rw [hs]
    by_cases e : i = nx
    · subst e; rw [rnew] at hq; cases hq; rw [hpp]; exact R.lt h p hp
    · rw [rold i e] at hq; exact R.lt i q hq
  · rw [hs]; exact R.size
  · intro b hb' hB
    rw [hb b (fun e => by subst e; rcases hown with h1 | h1 <;> first | omega | exact hB h1)]
    exact R.frame b hb' hB

/-! ### the model's append, of any slice -/
section
variable {P : Program} {t ty e : TypeId} {i : TypeInfo} {z : Value}
theorem run_append_in (ht : P.underlying t = some (.slice e)) (hi : P.info? e = some i) {a : Addr} (hsp : a.spot = none) {sLen sCap n : Nat} {x : Value} {news : List Value} {w : World}
    (hlen : ∀ w, (Builtin.lenOf x).run P w = .ok n w) (hnew : (Builtin.firstCells i.size n x).run P w = .ok news.toArray w)
    (hroom : sLen + n ≤ sCap) (hex : ∀ j, j < news.length → (w.cell? ⟨a.block, a.off + sLen * i.size + j, none⟩).isSome = true) (hfr : ∀ j, j < news.length → w.frozen? ⟨a.block, a.off + sLen * i.size + j, none⟩ = false)
    (h1 : ∀ u ∈ news, u.oneCell' = true) :
    (Builtin.append_ #[t, t] ty #[.slice (some a) sLen sCap, x]).run P w = .ok (.slice (some a) (sLen + n) sCap) (w.setCells a.block (a.off + sLen * i.size) news) := by
  have hst := run_storeCells_cells (P := P) a.block (a.off + sLen * i.size) news 0 w (by simpa using hex) (by simpa using hfr) h1
  have hadr : a.add (sLen * i.size) = ⟨a.block, a.off + sLen * i.size, none⟩ := by
    have h1 := Addr.add_block a (sLen * i.size)
    have h2 := Addr.add_off a (sLen * i.size)
    have h3 := Addr.add_spot hsp (sLen * i.size)
    cases hh : a.add (sLen * i.size)
    simp_all
  simp only [Nat.add_zero] at hst
  simp [Builtin.append_, run_underlying ht, run_size hi, hlen, hroom, hnew, hadr, hst]
theorem run_append_nothing (ht : P.underlying t = some (.slice e)) (hi : P.info? e = some i) {sLen sCap : Nat} {x : Value} {w : World} {base : Option Addr}
    (hlen : ∀ w, (Builtin.lenOf x).run P w = .ok 0 w) (hnew : (Builtin.firstCells i.size 0 x).run P w = .ok #[] w) (hroom : sLen ≤ sCap) :
    (Builtin.append_ #[t, t] ty #[.slice base sLen sCap, x]).run P w = .ok (.slice base sLen sCap) w := by
  cases base with
  | none => simp [Builtin.append_, run_underlying ht, run_size hi, hlen, hroom, hnew]
  | some a => simp [Builtin.append_, run_underlying ht, run_size hi, hlen, hroom, hnew, storeCells]
theorem run_append_new (ht : P.underlying t = some (.slice e)) (hi : P.info? e = some i) (hz : i.zero = some z) {sLen sCap n : Nat} {x : Value} {olds news : List Value} {w : World} {base : Option Addr}
    (hlen : ∀ w, (Builtin.lenOf x).run P w = .ok n w) (hold : (Builtin.firstCells i.size sLen (.slice base sLen sCap)).run P w.drew = .ok olds.toArray w.drew) (hnew : (Builtin.firstCells i.size n x).run P w.drew = .ok news.toArray w.drew)
    (hgrow : sCap < sLen + n) (hbytes : (sLen + n) * i.bytes ≤ 140737488355328) (hb0 : i.bytes ≠ 0) :
    (Builtin.append_ #[t, t] ty #[.slice base sLen sCap, x]).run P w =
      .ok (.slice (some ⟨w.heap.size, 0, none⟩) (sLen + n) (grownCap w (sLen + n) sCap e)) (w.drew.alloc (.cells (olds.toArray ++ news.toArray ++ Builtin.zeroCells z.cells (grownCap w (sLen + n) sCap e - (sLen + n))) e)) := by
  have hroom : ¬ (sLen + n ≤ sCap) := by omega
  have hfits := growslice_fits (need := sLen + n) (old := sCap) (bytes := i.bytes) hgrow hbytes
  have hfits' : ¬ (Builtin.nextslicecap (sLen + n) sCap * i.bytes > 2 ^ 48) := by omega
  have hti : ∀ w, (typeInfo e).run P w = .ok i w := fun w => by simp [typeInfo, hi]
  have hzr : ∀ w, (zeroValue e).run P w = .ok z w := fun w => by simp [zeroValue, typeInfo, hi, hz]
  have hask : ∀ m w, (askRoom m).run P w = .ok () w := fun m w => run_askRoom P w m
  simp only [Builtin.append_, run_underlying ht, run_size hi, hlen, Sem.run_bind, Result.andThen_ok, Sem.run_pure, List.getElem?_toArray, List.getElem?_cons_zero, List.getElem?_cons_succ, Bool.false_eq_true, if_false, hroom]
  simp [hti, hfits', hask, hold, hnew, hzr, newRow, run_newObj, hb0, Question.forced, grownCap]
  congr 2
  rw [← Array.append_assoc]
  simp
end

end Go.Sx
/-
  append, on symbolic slices.
-/
namespace Go.Sx
open Go

/-- the element at which an offset begins -/
def startOf (k : Nat) : Off → Option E
  | .c q => match Nat.beq (q % k) 0 with
    | true => some (.lit (q / k : Nat))
    | false => none
  | .ix st k' j => match Nat.beq k' k, Nat.beq j 0 with
    | true, true => some st
    | _, _ => none
theorem startOf_n {k : Nat} {off : Off} {st : E} (h : startOf k off = some st) (hp : off.pos) : off.n = st.i.toNat * k ∧ 0 ≤ st.i := by
  unfold startOf at h
  split at h
  · rename_i q
    split at h
    · rename_i hq
      cases h
      have hq := Nat.eq_of_beq_eq_true hq
      refine ⟨?_, Int.natCast_nonneg _⟩
      simp only [Off.n, E.i_lit, Int.toNat_natCast]
      have := Nat.div_add_mod q k
      rw [hq, Nat.mul_comm] at this
      omega
    · cases h
  · rename_i st' k' j
    split at h
    · rename_i h1 h2
      cases h
      have h1 := Nat.eq_of_beq_eq_true h1
      have h2 := Nat.eq_of_beq_eq_true h2
      subst h1; subst h2
      exact ⟨by simp [Off.n], hp⟩
    · cases h

def cellsF (k : Nat) (vs : List SV) : Nat → E → SV := fun j i => match i with
  | .lit q => getT vs (q.toNat * k + j)
  | _ => .any
/-- how many elements of k cells an object has, and their cells -/
def Ob.asRow (k : Nat) : Ob → Option (E × (Nat → E → SV))
  | .row _ k' n F => match Nat.beq k' k with
    | true => some (n, F)
    | false => none
  | .cells _ vs => some (.lit (vs.length / k : Nat), cellsF k vs)
  | _ => none
theorem asRow_R {ρ : Rho} {w : World} {ob : Ob} {op : Option Pl} {k : Nat} {n : E} {F : Nat → E → SV} (ho : ob.R ρ w op) (h : ob.asRow k = some (n, F)) (hk : 0 < k) :
    0 ≤ n.i ∧ ∀ (e : E) (j : Nat), 0 ≤ e.i → e.i < n.i → j < k → ∃ p x, op = some p ∧ w.cell? (p.a.add (e.i.toNat * k + j)) = some x ∧ x.oneCell' = true ∧ SV.R ρ (F j e) x := by
  cases ob with
  | row t k' m G =>
    simp only [Ob.asRow] at h
    split at h
    · rename_i hk'
      cases h
      have hk' := Nat.eq_of_beq_eq_true hk'
      subst hk'
      exact ⟨ho.1.1, ho.2⟩
    · cases h
  | cells t vs =>
    cases h
    obtain ⟨p, rfl, _, hc⟩ := ho
    refine ⟨Int.natCast_nonneg _, fun e j h1 h2 h3 => ?_⟩
    have h2' : e.i.toNat < vs.length / k := by
      simp only [E.i_lit] at h2
      omega
    have hl : e.i.toNat * k + j < vs.length := by
      have : (e.i.toNat + 1) * k ≤ vs.length / k * k := Nat.mul_le_mul_right _ h2'
      rw [Nat.add_mul] at this
      have h4 := Nat.div_mul_le_self vs.length k
      omega
    obtain ⟨x, hx, ho, hr⟩ := hc _ _ (List.getElem?_eq_getElem hl)
    refine ⟨p, x, rfl, hx, ho, ?_⟩
    unfold cellsF
    split
    · rw [getT_eq]
      simp only [E.i_lit] at hl hr
      simpa [List.getD, List.getElem?_eq_getElem hl] using hr
    · exact SV.R_any _ _
  | loop => cases h
  | dfr => cases h
theorem asRow_own {w : World} {p : Pl} {ob : Ob} {k : Nat} {x : E × (Nat → E → SV)} (h : ob.asRow k = some x) (ho : ob.own w p) : OwnBlock w p := by
  cases ob with
  | cells t vs => exact ho
  | row t k n F => exact ho
  | loop => cases h
  | dfr => cases h

/-- A slice as a row of its own: what must hold; how many; the cells, if all are known; the cells. -/
structure View where
  ast : List E
  n : E
  lits : Option (List SV)
  F : Nat → E → SV
def litsOf (k : Nat) (ob : Ob) (st n : E) : Option (List SV) :=
  match ob with
  | .cells _ vs => match st, n with
    | .lit a, .lit b => take? vs (a.toNat * k) (b.toNat * k)
    | _, _ => none
  | _ => none
def viewOf (H : Heap) (k : Nat) (s : SV) : Option View :=
  match s with
  | .lit (.slice none 0 0) => some ⟨[], .lit 0, some [], fun _ _ => .any⟩
  | .lit (.slice (some _) 0 0) => some ⟨[], .lit 0, some [], fun _ _ => .any⟩
  | .sl h k' off len _ => match Nat.beq k' k, hfind H h, startOf k off with
    | true, some (_, ob), some st => match ob.asRow k with
      | some (n, F) => some ⟨below .leq (plus' st len) n, len, litsOf k ob st len, fun j e => F j (plus' st e)⟩
      | none => none
    | _, _, _ => none
  | _ => none

def hOf : SV → Option Nat
  | .sl h .. => some h
  | _ => none
/-- what a view says of a slice -/
structure ViewR (P : Program) (ρ : Rho) (k : Nat) (V : View) (v : Value) (w : World) (h : Option Nat) : Prop where
  n0 : 0 ≤ V.n.i
  val : ∃ (oa : Option Addr) (c : Nat) (xs : List Value), v = .slice oa V.n.i.toNat c ∧ V.n.i.toNat ≤ c ∧ c ≤ maxLen ∧ xs.length = V.n.i.toNat * k ∧ (∀ x ∈ xs, x.oneCell' = true) ∧
    (∀ l, V.lits = some l → SV.RL ρ l xs) ∧
    (∀ (e : E) (j : Nat), 0 ≤ e.i → e.i < V.n.i → j < k → ∃ x, xs[e.i.toNat * k + j]? = some x ∧ SV.R ρ (V.F j e) x) ∧
    (∀ w', (∀ g p, h = some g → ρ g = some (some p) → w'.heap[p.a.block]? = w.heap[p.a.block]?) → (Builtin.firstCells k V.n.i.toNat v).run P w' = .ok xs.toArray w') ∧
    (∀ a, oa = some a → ∀ q x, xs[q]? = some x → w.cell? (a.add q) = some x)

theorem viewOf_R {P : Program} {ρ : Rho} {H : Heap} {w : World} (hobj : ∀ h own ob, hfind H h = some (own, ob) → ∃ op, ρ h = some op ∧ ob.R ρ w op) {k : Nat} (hk : 0 < k) {s : SV} {v : Value} {V : View} (h : viewOf H k s = some V) (hs : SV.R ρ s v) (ha : astOk V.ast) :
    ViewR P ρ k V v w (hOf s) := by
  unfold viewOf at h
  split at h
  · cases h
    simp only [SV.R] at hs
    subst hs
    exact ⟨by simp, none, 0, [], rfl, by simp, by simp, by simp, by simp, fun l hl => by cases hl; simp [SV.RL], fun e j h1 h2 => by simp at h2; omega, fun w' _ => rfl, fun a ha => by cases ha⟩
  · cases h
    simp only [SV.R] at hs
    subst hs
    rename_i a
    exact ⟨by simp, some a, 0, [], rfl, by simp, by simp, by simp, by simp, fun l hl => by cases hl; simp [SV.RL], fun e j h1 h2 => by simp at h2; omega, fun w' _ => by simp [Builtin.firstCells, loadCells, loadCellsFrom], fun a ha q x hx => by cases hx⟩
  · rename_i hd k' off len cap
    split at h
    · rename_i own ob st hk' hf hst
      have hk' := Nat.eq_of_beq_eq_true hk'
      subst hk'
      split at h
      · rename_i n F hrow
        cases h
        obtain ⟨op', hop', hob⟩ := hobj _ _ _ hf
        simp only [SV.R] at hs
        obtain ⟨hpos, h0, op, oa, c, hp, rfl, hlc, hcm, hcap, hadr⟩ := hs
        rw [hop'] at hp; cases hp
        obtain ⟨hn0, hrowR⟩ := asRow_R hob hrow hk
        obtain ⟨so, s0⟩ := startOf_n hst hpos
        have hle : st.i + len.i ≤ n.i := by
          have := below_ok ha
          rw [plus'_i] at this
          exact of_decide_eq_true this
        -- the cells, one by one
        have hex : ∀ q : Nat, ∃ x, q < len.i.toNat * k' → ∃ p, op' = some p ∧ w.cell? (p.a.add (off.n + q)) = some x ∧ x.oneCell' = true ∧ ∀ e : E, e.i = ((q / k' : Nat) : Int) → SV.R ρ (F (q % k') (plus' st e)) x := fun q => by
          by_cases hq : q < len.i.toNat * k'
          · have hq1 : q / k' < len.i.toNat := Nat.div_lt_of_lt_mul (by rw [Nat.mul_comm]; exact hq)
            have hq2 := Nat.mod_lt q hk
            have hq3 := Nat.div_add_mod q k'
            rw [Nat.mul_comm] at hq3
            generalize q / k' = d at hq1 hq3 ⊢
            generalize q % k' = r at hq2 hq3 ⊢
            subst hq3
            clear hadr hcap
            obtain ⟨p, x, hp1, hp2, hp3, _⟩ := hrowR (plus' st (.lit (d : Nat))) r (by rw [plus'_i, E.i_lit]; omega) (by rw [plus'_i, E.i_lit]; omega) hq2
            refine ⟨x, fun _ => ⟨p, hp1, ?_, hp3, fun e he => ?_⟩⟩
            · rw [plus'_i, E.i_lit, Int.toNat_add s0 (Int.natCast_nonneg _), Int.toNat_natCast, Nat.add_mul, Nat.add_assoc] at hp2
              rw [so]
              exact hp2
            · obtain ⟨p', x', hp1', hp2', _, hr'⟩ := hrowR (plus' st e) r (by rw [plus'_i, he]; omega) (by rw [plus'_i, he]; omega) hq2
              rw [hp1] at hp1'; cases hp1'
              have : (plus' st e).i = (plus' st (E.lit (d : Nat))).i := by rw [plus'_i, plus'_i, he, E.i_lit]
              rw [this, hp2] at hp2'
              cases hp2'
              exact hr'
          · exact ⟨undef, fun h => absurd h hq⟩
        obtain ⟨φ, hφ⟩ := Classical.axiomOfChoice hex
        have hget : ∀ q, q < len.i.toNat * k' → ((List.range (len.i.toNat * k')).map φ)[q]? = some (φ q) := fun q hq => by simp [hq]
        refine ⟨h0, oa, c, (List.range (len.i.toNat * k')).map φ, rfl, hlc, hcm, by simp, ?_, ?_, ?_, ?_, ?_⟩
        · intro x hx
          obtain ⟨q, hq, rfl⟩ := List.mem_map.1 hx
          obtain ⟨_, _, _, h3, _⟩ := hφ q (List.mem_range.1 hq)
          exact h3
        · intro l hl
          simp only [litsOf] at hl
          split at hl
          · rename_i t vs
            split at hl
            · rename_i a b
              obtain ⟨rfl, hle2⟩ := take?_some hl
              obtain ⟨p, hp1, _, hc⟩ := hob
              simp only [E.i_lit] at so
              refine RL_of_get (by simp; omega) fun q s v h1 h2 => ?_
              simp only [List.getElem?_take, List.getElem?_drop] at h1
              split at h1
              · rename_i hq
                rw [hget q (by simpa using hq)] at h2
                cases h2
                obtain ⟨p', hp1', hcx, _, _⟩ := hφ q (by simpa using hq)
                rw [hp1] at hp1'; cases hp1'
                obtain ⟨x, hx1, _, hx2⟩ := hc _ _ h1
                rw [so] at hcx
                rw [hx1] at hcx
                cases hcx
                exact hx2
              · cases h1
            · cases hl
          · cases hl
        · intro e j h1 h2 h3
          have hq : e.i.toNat * k' + j < len.i.toNat * k' := by
            have : (e.i.toNat + 1) * k' ≤ len.i.toNat * k' := Nat.mul_le_mul_right _ (by have h2' : e.i < len.i := h2; clear hadr hcap; omega)
            rw [Nat.add_mul] at this
            omega
          obtain ⟨_, _, _, _, h4⟩ := hφ _ hq
          refine ⟨_, hget _ hq, ?_⟩
          have e1 : (e.i.toNat * k' + j) / k' = e.i.toNat := by
            rw [Nat.mul_comm, Nat.mul_add_div hk, Nat.div_eq_of_lt h3]; rfl
          have e2 : (e.i.toNat * k' + j) % k' = j := by
            rw [Nat.mul_comm, Nat.mul_add_mod, Nat.mod_eq_of_lt h3]
          rw [e1, e2] at h4
          exact h4 e (by clear hadr hcap; omega)
        · intro w' hw'
          by_cases hz : len.i.toNat * k' = 0
          · simp only [hz, List.range_zero, List.map_nil]
            cases oa with
            | none => rfl
            | some a => simp [Builtin.firstCells, hz, loadCells, loadCellsFrom]
          · have hl0 : len.i.toNat ≠ 0 := fun e => hz (by rw [e, Nat.zero_mul])
            obtain ⟨p, rfl, rfl, _⟩ := hadr (by omega)
            have hb := hw' hd p rfl hop'
            have := run_loadCells_list (P := P) w' (p.a.add off.n) ((List.range (len.i.toNat * k')).map φ) (fun q x hx => by
              have hq : q < len.i.toNat * k' := by
                rcases Nat.lt_or_ge q (len.i.toNat * k') with h | h
                · exact h
                · rw [List.getElem?_eq_none (by simpa using h)] at hx; cases hx
              rw [hget q hq] at hx
              cases hx
              obtain ⟨p', hp', hcx, _, _⟩ := hφ q hq
              cases hp'
              rw [Addr.add_add', cell_of_block (w := w) (by rw [Addr.add_block]; exact hb)]
              exact hcx)
            simp only [List.length_map, List.length_range] at this
            simp only [Builtin.firstCells]
            exact this
        · intro a ha q x hx
          have hq : q < len.i.toNat * k' := by
            rcases Nat.lt_or_ge q (len.i.toNat * k') with h | h
            · exact h
            · rw [List.getElem?_eq_none (by simpa using h)] at hx; cases hx
          rw [hget q hq] at hx
          cases hx
          obtain ⟨p', hp', hcx, _, _⟩ := hφ q hq
          have hl0 : len.i.toNat ≠ 0 := fun e => by rw [e, Nat.zero_mul] at hq; omega
          obtain ⟨p, hp, ho, _⟩ := hadr (by omega)
          rw [hp'] at hp; cases hp
          rw [ha] at ho; cases ho
          rw [Addr.add_add']
          exact hcx
      · cases h
    · cases h
  · cases h

end Go.Sx
/-
  append, the rule.
-/
namespace Go.Sx
open Go

def joinRow (e : TypeId) (k : Nat) (V1 V2 : View) : Ob :=
  match V1.n with
  | .lit 0 => .row e k V2.n V2.F
  | _ => .row e k (plus' V1.n V2.n) (fun j i => iteSV (cmp' .lss i V1.n) (V1.F j i) (V2.F j (minus' i V1.n)))
theorem joinRow_cases (e : TypeId) (k : Nat) (V1 V2 : View) : (V1.n.i = 0 ∧ joinRow e k V1 V2 = .row e k V2.n V2.F) ∨ joinRow e k V1 V2 = .row e k (plus' V1.n V2.n) (fun j i => iteSV (cmp' .lss i V1.n) (V1.F j i) (V2.F j (minus' i V1.n))) := by
  unfold joinRow
  split
  · rename_i h
    exact .inl ⟨by rw [h]; rfl, rfl⟩
  · exact .inr rfl
/-- one element, all of whose cells are known: they are so whatever the index is called -/
def oneV (V : View) : View :=
  match V.lits, V.n with
  | some l, .lit 1 => ⟨V.ast, V.n, V.lits, fun j _ => getT l j⟩
  | _, _ => V
theorem oneV_n (V : View) : (oneV V).n = V.n := by
  unfold oneV
  split <;> rfl
theorem oneV_R {ρ : Rho} {k : Nat} {V : View} {ys : List Value} (l2 : ys.length = V.n.i.toNat * k) (r2 : ∀ l, V.lits = some l → SV.RL ρ l ys)
    (f2 : ∀ (e : E) (j : Nat), 0 ≤ e.i → e.i < V.n.i → j < k → ∃ x, ys[e.i.toNat * k + j]? = some x ∧ SV.R ρ (V.F j e) x) :
    ∀ (e : E) (j : Nat), 0 ≤ e.i → e.i < V.n.i → j < k → ∃ x, ys[e.i.toNat * k + j]? = some x ∧ SV.R ρ ((oneV V).F j e) x := by
  unfold oneV
  split
  · rename_i l hl hn
    intro e j h1 h2 h3
    rw [hn, E.i_lit] at h2 l2
    have he : e.i = 0 := by omega
    rw [he]
    have hrl := r2 l hl
    have hlen := RL_length hrl
    have hj : j < l.length := by rw [hlen, l2]; simpa using h3
    obtain ⟨x, hx, hr⟩ := RL_get hrl j _ (List.getElem?_eq_getElem hj)
    refine ⟨x, by simpa using hx, ?_⟩
    show SV.R ρ (getT l j) x
    rw [getT_eq]
    simpa [List.getD, List.getElem?_eq_getElem hj] using hr
  · exact f2

def joinOb (e : TypeId) (k : Nat) (V1 V2 : View) : Ob :=
  match V1.lits, V2.lits with
  | some a, some b => match a ++ b with
    | [] => joinRow e k V1 (oneV V2)
    | x :: r => .cells e (x :: r)
  | _, _ => joinRow e k V1 (oneV V2)

theorem joinOb_R {ρ : Rho} {w' : World} {e : TypeId} {k : Nat} {V1 V2 : View} {p : Pl} {xs ys : List Value} (h1 : 0 ≤ V1.n.i) (h2 : 0 ≤ V2.n.i) (l1 : xs.length = V1.n.i.toNat * k) (l2 : ys.length = V2.n.i.toNat * k)
    (o1 : ∀ x ∈ xs, x.oneCell' = true) (o2 : ∀ x ∈ ys, x.oneCell' = true)
    (r1 : ∀ l, V1.lits = some l → SV.RL ρ l xs) (r2 : ∀ l, V2.lits = some l → SV.RL ρ l ys)
    (f1 : ∀ (e : E) (j : Nat), 0 ≤ e.i → e.i < V1.n.i → j < k → ∃ x, xs[e.i.toNat * k + j]? = some x ∧ SV.R ρ (V1.F j e) x)
    (f2 : ∀ (e : E) (j : Nat), 0 ≤ e.i → e.i < V2.n.i → j < k → ∃ x, ys[e.i.toNat * k + j]? = some x ∧ SV.R ρ (V2.F j e) x)
    (hn : (V1.n.i.toNat + V2.n.i.toNat) * k ≤ p.n) (hc : ∀ q x, (xs ++ ys)[q]? = some x → w'.cell? (p.a.add q) = some x) : (joinOb e k V1 V2).R ρ w' (some p) := by
  have hone : ∀ x ∈ xs ++ ys, x.oneCell' = true := fun x hx => (List.mem_append.1 hx).elim (o1 x) (o2 x)
  have f2 := oneV_R l2 r2 f2
  rw [← oneV_n V2] at h2 l2 f2 hn
  have hrow : (joinRow e k V1 (oneV V2)).R ρ w' (some p) := by
    rcases joinRow_cases e k V1 (oneV V2) with ⟨h0, hj⟩ | hj
    · rw [hj]
      have hxs : xs = [] := List.length_eq_zero_iff.1 (by rw [l1, h0]; simp)
      subst hxs
      refine ⟨⟨h2, fun q hq => ?_⟩, fun ee j g1 g2 g3 => ?_⟩
      · cases hq
        refine Nat.le_trans (Nat.mul_le_mul_right _ ?_) hn
        omega
      · obtain ⟨x, hx, hr⟩ := f2 ee j g1 g2 g3
        exact ⟨p, x, rfl, hc _ _ (by simpa using hx), hone x (by simpa using List.mem_of_getElem? hx), hr⟩
    rw [hj]
    refine ⟨⟨by rw [plus'_i]; omega, fun q hq => ?_⟩, fun ee j g1 g2 g3 => ?_⟩
    · cases hq
      rw [plus'_i, Int.toNat_add h1 h2]
      exact hn
    · rw [plus'_i] at g2
      by_cases hlt : ee.i < V1.n.i
      · obtain ⟨x, hx, hr⟩ := f1 ee j g1 hlt g3
        have hx' : (xs ++ ys)[ee.i.toNat * k + j]? = some x := by
          rw [List.getElem?_append_left (List.getElem?_eq_some_iff.1 hx).1]; exact hx
        refine ⟨p, x, rfl, hc _ _ hx', hone x (List.mem_of_getElem? hx'), iteSV_R (fun _ => hr) (fun hcc => ?_)⟩
        rw [cmp'_b] at hcc
        exact absurd hlt (of_decide_eq_false hcc)
      · obtain ⟨x, hx, hr⟩ := f2 (minus' ee V1.n) j (by rw [minus'_i]; omega) (by rw [minus'_i]; omega) g3
        have hidx : ee.i.toNat * k + j = xs.length + ((minus' ee V1.n).i.toNat * k + j) := by
          rw [l1, minus'_i, ← Nat.add_assoc, ← Nat.add_mul]
          congr 2
          omega
        have hx' : (xs ++ ys)[ee.i.toNat * k + j]? = some x := by
          rw [hidx, List.getElem?_append_right (by omega), Nat.add_sub_cancel_left]; exact hx
        refine ⟨p, x, rfl, hc _ _ hx', hone x (List.mem_of_getElem? hx'), iteSV_R (fun hcc => ?_) (fun _ => hr)⟩
        rw [cmp'_b] at hcc
        exact absurd (of_decide_eq_true hcc) hlt
  unfold joinOb
  split
  · rename_i a b ha hb
    have hab := RL_append (r1 a ha) (r2 b hb)
    split
    · exact hrow
    · rename_i x0 r0 he
      rw [he] at hab
      refine ⟨p, rfl, ?_, fun j s hs => ?_⟩
      · rw [RL_length hab, List.length_append, l1, l2, ← Nat.add_mul]; exact hn
      · obtain ⟨x, hx, hr⟩ := RL_get hab j s hs
        exact ⟨x, hc j x hx, hone x (List.mem_of_getElem? hx), hr⟩
  · exact hrow

theorem joinRow_own {w : World} {p : Pl} {e : TypeId} {k : Nat} {V1 V2 : View} (h : OwnBlock w p) : (joinRow e k V1 V2).own w p := by
  unfold joinRow
  split <;> exact h
theorem joinOb_own {w : World} {p : Pl} {e : TypeId} {k : Nat} {V1 V2 : View} (h : OwnBlock w p) : (joinOb e k V1 V2).own w p := by
  unfold joinOb
  split
  · split
    · exact joinRow_own h
    · exact h
  · exact joinRow_own h

/-- a row of no element, that lies nowhere -/
theorem Rep.none {C : Cx} {ρ : Rho} {H : Heap} {nx : Nat} {w : World} (R : Rep C ρ H nx w) {t : TypeId} {k : Nat} {n : E} (hn : n.i = 0) (F : Nat → E → SV) : Rep C (rset ρ nx none) ((nx, true, .row t k n F) :: H) (nx + 1) w := by
  have hnx : ρ nx = Option.none := R.fresh nx (Nat.le_refl _)
  have hx := Ext.rset hnx Option.none
  have rnew : rset ρ nx Option.none nx = some Option.none := by simp [rset]
  have rold : ∀ i, i ≠ nx → rset ρ nx Option.none i = ρ i := fun i hne => by simp [rset, hne]
  have old : ∀ i x, hfind H i = some x → i ≠ nx := fun i x hf e => by have := hfind_lt R hf; omega
  refine ⟨?_, ?_, ?_, ?_, ?_, R.size, R.frame, R.os, R.tape, R.output, ⟨R.dfr.nd, R.dfr.blk, R.dfr.own, fun b hb i own x q hi hq => ?_⟩⟩
  rotate_left 5
  · rw [hfind_cons] at hi
    split at hi
    · rename_i e; subst e; cases hi
      rw [rnew] at hq; cases hq
    · rw [rold i (old _ _ hi)] at hq; exact R.dfr.sep b hb i own x q hi hq
  · intro i own x hi
    rw [hfind_cons] at hi
    split at hi
    · rename_i e; subst e; cases hi
      exact ⟨_, rnew, ⟨by rw [hn]; simp, fun p hp => by cases hp⟩, fun e j h1 h2 => by rw [hn] at h2; omega⟩
    · obtain ⟨op, h1, h2⟩ := R.obj i own x hi
      exact ⟨op, hx _ _ h1, Ob.R_of_block hx (fun _ _ => rfl) h2⟩
  · intro i x q hi hq
    rw [hfind_cons] at hi
    split at hi
    · rename_i e; subst e; rw [rnew] at hq; cases hq
    · rw [rold i (old _ _ hi)] at hq; exact R.own i x q hi hq
  · intro i x i' own' x' q q' hne hi hi' hq hq'
    rw [hfind_cons] at hi hi'
    split at hi
    · rename_i e; subst e; rw [rnew] at hq; cases hq
    · split at hi'
      · rename_i e; subst e; rw [rnew] at hq'; cases hq'
      · rw [rold i (old _ _ hi)] at hq
        rw [rold i' (old _ _ hi')] at hq'
        exact R.sep i x i' own' x' q q' hne hi hi' hq hq'
  · intro i hi; rw [rold i (by omega)]; exact R.fresh i (by omega)
  · intro i q hq
    by_cases e : i = nx
    · subst e; rw [rnew] at hq; cases hq
    · rw [rold i e] at hq; exact R.lt i q hq

inductive Mode where
  | same | grow | own (h : Nat)
/-- what is known of the room behind a slice -/
def capOf : SV → Option E
  | .lit (.slice none 0 0) => some (.lit 0)
  | .sl _ _ _ _ cap => cap
  | _ => none
def sureGrow (s : SV) (n : E) : Bool :=
  match capOf s with
  | some c => match cmp' .gtr n c with
    | .bl b => b
    | _ => false
  | none => false
def capGrow (s : SV) (n : E) : Option (List E × Mode) :=
  match capOf s with
  | some c => some ([cmp' .gtr n c], .grow)
  | none => none
def growOr (H : Heap) (s : SV) (n : E) : Option (List E × Mode) :=
  match s with
  | .sl h .. => match hfind H h with
    | some (true, _) => some ([], .own h)
    | _ => capGrow s n
  | _ => capGrow s n
/-- what an append does: nothing; a new block, and what must hold then; either, and the old row is gone -/
def modeOf (H : Heap) (s : SV) (n1 n2 : E) : Option (List E × Mode) :=
  match n2 with
  | .lit 0 => some ([], .same)
  | n2 => match sureGrow s (plus' n1 n2) with
    | true => some ([], .grow)
    | false => growOr H s (plus' n1 n2)

def appendN (P : Program) (H : Heap) (nx : Nat) (t : TypeId) (s x : SV) : Option NR :=
  match P.underlying t with
  | some (.slice e) => match P.info? e with
    | some i => match zeroL i with
      | some z => match Nat.beq z.length i.size, Nat.blt 0 i.size, Nat.blt 0 i.bytes with
        | true, true, true => match viewOf H i.size s, viewOf H i.size x with
          | some V1, some V2 => match modeOf H s V1.n V2.n with
            | some (a, .same) => some ⟨V1.ast ++ (V2.ast ++ a), s, H, nx, []⟩
            | some (a, .grow) => some ⟨V1.ast ++ (V2.ast ++ (a ++ below .leq (plus' V1.n V2.n) (.lit (140737488355328 / i.bytes : Nat)))), .sl nx i.size (.c 0) (plus' V1.n V2.n) none, (nx, true, joinOb e i.size V1 V2) :: H, nx + 1, []⟩
            | some (a, .own h) => some ⟨V1.ast ++ (V2.ast ++ (a ++ below .leq (plus' V1.n V2.n) (.lit (140737488355328 / i.bytes : Nat)))), .sl nx i.size (.c 0) (plus' V1.n V2.n) none, (nx, true, joinOb e i.size V1 V2) :: hdel H h, nx + 1, [h]⟩
            | none => none
          | _, _ => none
        | _, _, _ => none
      | none => none
    | none => none
  | _ => none

end Go.Sx
