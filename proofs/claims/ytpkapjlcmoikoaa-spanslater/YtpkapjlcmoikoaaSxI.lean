import Derived.Test.YtpkapjlcmoikoaaSxH
set_option linter.all false
/-
  Operations that make blocks, or write into one.
-/
namespace Go.Sx
open Go

structure NR where
  ast : List E
  v : SV
  heap : Heap
  nx : Nat
  wr : List Nat

structure Agree (ρ ρ' : Rho) (nx : Nat) : Prop where
  f : ∀ h, h < nx → ρ' h = ρ h
  o : ρ'.o = ρ.o
theorem Agree.refl (ρ : Rho) (nx : Nat) : Agree ρ ρ nx := ⟨fun _ _ => rfl, rfl⟩
theorem Agree.trans {a b c : Rho} {n m : Nat} (h : Agree a b n) (k : Agree b c m) (hn : n ≤ m) : Agree a c n := ⟨fun i hi => (k.f i (Nat.lt_of_lt_of_le hi hn)).trans (h.f i hi), k.o.trans h.o⟩
theorem Agree.rset (ρ : Rho) {n h : Nat} (hn : n ≤ h) (x : Option Pl) : Agree ρ (rset ρ h x) n := ⟨fun i hi => by
  have e : i ≠ h := by omega
  simp only [Sx.rset, if_neg e], rfl⟩
def NOk (P : Program) (C : Cx) (ρ : Rho) (nx : Nat) (g : Operand → Value) (o : Oper) (r : NR) (w : World) : Prop :=
  ∃ v w' ρ', (Agree ρ ρ' nx ∧ ρ'.d = ρ.d) ∧ nx ≤ r.nx ∧ Rep C ρ' r.heap r.nx w' ∧ SV.R ρ' r.v v ∧
    ((execOp g o).run P w = .ok (.value v) w' ∨ ((execOp g o).run P w = .ok .skip w' ∧ v = undef)) ∧
    (∀ b, b < w.heap.size → (∀ h p, h ∈ r.wr → ρ h = some (some p) → p.a.block ≠ b) → w'.heap[b]? = w.heap[b]?)

theorem Ext.of_agree {C : Cx} {ρ ρ' : Rho} {H : Heap} {nx : Nat} {w : World} (R : Rep C ρ H nx w) (h : Agree ρ ρ' nx) : Ext ρ ρ' := fun i x hi => by
  rcases Nat.lt_or_ge i nx with h1 | h1
  · rw [h.f i h1]; exact hi
  · rw [R.fresh i h1] at hi; cases hi

section
variable {P : Program} {C : Cx} {ρ : Rho} {H : Heap} {nx : Nat} {g : Operand → Value} {o : Oper} {f : Operand → SV} {r : NR} {w : World}

/-- a new block of cells under the next handle -/
theorem nok_alloc (R : Rep C ρ H nx w) {cs : Array Value} {t : TypeId} {ob : Ob} {s : SV} {v : Value}
    (hob : ∀ ρ', Ext ρ ρ' → ρ' nx = some (some ⟨⟨w.heap.size, 0, none⟩, cs.size⟩) → ob.R ρ' (w.alloc (.cells cs t)) (some ⟨⟨w.heap.size, 0, none⟩, cs.size⟩))
    (hv : ∀ ρ', Ext ρ ρ' → ρ' nx = some (some ⟨⟨w.heap.size, 0, none⟩, cs.size⟩) → SV.R ρ' s v)
    (hrun : (execOp g o).run P w = .ok (.value v) (w.alloc (.cells cs t))) {a : List E} : NOk P C ρ nx g o ⟨a, s, (nx, true, ob) :: H, nx + 1, []⟩ w := by
  have hx : Ext ρ (rset ρ nx (some ⟨⟨w.heap.size, 0, none⟩, cs.size⟩)) := Ext.rset (R.fresh nx (Nat.le_refl _)) _
  have hn : rset ρ nx (some ⟨⟨w.heap.size, 0, none⟩, cs.size⟩) nx = some (some ⟨⟨w.heap.size, 0, none⟩, cs.size⟩) := by simp [rset]
  exact ⟨v, _, _, ⟨Agree.rset ρ (Nat.le_refl _) _, rfl⟩, Nat.le_succ _, R.alloc cs t ob (hob _ hx hn), hv _ hx hn, .inl hrun, fun b hb _ => heap_alloc_lt _ _ _ hb⟩

theorem cell_new (w : World) (cs : Array Value) (t : TypeId) (j : Nat) : (w.alloc (.cells cs t)).cell? ((⟨w.heap.size, 0, none⟩ : Addr).add j) = cs[j]? := by
  have : ((⟨w.heap.size, 0, none⟩ : Addr).add j) = ⟨w.heap.size, j, none⟩ := by simp only [Addr.add]; split <;> simp_all
  rw [this, World.cell?_alloc_new]

theorem cells_new {ρ' : Rho} {w : World} {cs : Array Value} {t : TypeId} {vs : List SV} (h : SV.RL ρ' vs cs.toList) (hone : ∀ x ∈ vs, x.one = true) : Ob.R ρ' (w.alloc (.cells cs t)) (.cells t vs) (some ⟨⟨w.heap.size, 0, none⟩, cs.size⟩) := by
  refine ⟨_, rfl, by rw [RL_length h]; simp, fun j s hs => ?_⟩
  obtain ⟨v, h1, h2⟩ := RL_get h j s hs
  exact ⟨v, by rw [cell_new]; simpa using h1, one_cell h2 (hone s (List.mem_of_getElem? hs)), h2⟩

def allocN (P : Program) (H : Heap) (nx : Nat) (t : TypeId) : Option NR :=
  match P.info? t with
  | some i => match zeroL i with
    | some vs => match vs.all SV.one with
      | true => some ⟨[], .ptr nx (.c 0), (nx, true, .cells t vs) :: H, nx + 1, []⟩
      | false => none
    | none => none
  | none => none
theorem allocN_ok {t : TypeId} (hop : o.op = .alloc t) (R : Rep C ρ H nx w) (h : allocN P H nx t = some r) : NOk P C ρ nx g o r w := by
  unfold allocN at h
  split at h
  · rename_i i hi
    split at h
    · rename_i vs hz
      split at h
      · rename_i hall
        cases h
        unfold zeroL at hz
        split at hz
        · rename_i v hv
          cases hz
          refine nok_alloc (cs := v.cells) (t := t) (v := .pointer (some ⟨w.heap.size, 0, none⟩)) R (fun ρ' hx hn => cells_new (map_ofConst0_R ρ' _) (fun x hx => List.all_eq_true.1 hall x hx)) (fun ρ' hx hn => ?_) ?_
          · simp only [SV.R]
            exact ⟨trivial, _, hn, by simp [Off.n, Addr.add]⟩
          · unfold execOp
            simp [hop, Instr.alloc, zeroValue, typeInfo, hi, hv, newVar, newRow]
        · cases hz
      · cases h
    · cases h
  · cases h

def boxN (H : Heap) (nx : Nat) (t : TypeId) (x : SV) : Option NR :=
  match x.cellsO with
  | some l => some ⟨[], .ptr nx (.c 0), (nx, true, .cells t l) :: H, nx + 1, []⟩
  | none => none
theorem boxN_ok {t : TypeId} {x : Operand} (hop : o.op = .box t x) (hR : RO ρ f g) (R : Rep C ρ H nx w) (h : boxN H nx t (f x) = some r) : NOk P C ρ nx g o r w := by
  unfold boxN at h
  split at h
  · rename_i l hl
    cases h
    obtain ⟨h1, hone⟩ := cellsO_R (hR x) hl
    refine nok_alloc (cs := (g x).cells) (t := t) (v := .pointer (some ⟨w.heap.size, 0, none⟩)) R (fun ρ' hx hn => cells_new (RL_mono hx _ _ h1) hone) (fun ρ' hx hn => ?_) ?_
    · simp only [SV.R]
      exact ⟨trivial, _, hn, by simp [Off.n, Addr.add]⟩
    · unfold execOp
      simp [hop, Instr.box, newVar, newRow]
  · cases h

def repeatL (z : List SV) (n : Nat) : List SV := (List.range n).map fun i => getT z (i % z.length)
def buildSliceN (P : Program) (H : Heap) (nx : Nat) (t : TypeId) (len : Nat) (parts : List (Nat × SV)) : Option NR :=
  match P.underlying t with
  | some (.slice e) => match P.info? e with
    | some i => match zeroL i with
      | some z => match Nat.beq z.length i.size, Nat.ble (len * i.size) 10000, Nat.ble len 10000 with
        | true, true, true => match sfill (fun q => some (q * i.size, i.size)) (repeatL z (len * i.size)) parts with
          | some c => match c.all SV.one with
            | true => some ⟨[], .sl nx i.size (.c 0) (.lit len) (some (.lit len)), (nx, true, .cells e c) :: H, nx + 1, []⟩
            | false => none
          | none => none
        | _, _, _ => none
      | none => none
    | none => none
  | _ => none
theorem sfill_length {place : Nat → Option (Nat × Nat)} : ∀ (parts : List (Nat × SV)) (cells c : List SV), sfill place cells parts = some c → c.length = cells.length
  | [], cells, c, h => by cases h; rfl
  | (i, v) :: rest, cells, c, h => by
    simp only [sfill] at h
    split at h
    · cases h
    · split at h
      · cases h
      · split at h
        · rw [sfill_length rest _ _ h, setAll_length]
        · cases h
theorem repeat_R (ρ : Rho) (zv : Array Value) (n : Nat) : SV.RL ρ (repeatL (zv.toList.map ofConst0) n) ((Array.range n).map (zv[· % zv.size]!)).toList := by
  refine RL_of_get (by simp [repeatL]) fun i s v h1 h2 => ?_
  simp only [repeatL, List.getElem?_map] at h1
  simp only [Array.toList_map, Array.toList_range, List.getElem?_map] at h2
  by_cases hi : i < n
  · simp only [List.getElem?_range hi, Option.map_some, Option.some.injEq] at h1 h2
    subst h1; subst h2
    rw [getT_eq]
    simp only [List.length_map, Array.length_toList]
    by_cases hz : i % zv.size < zv.size
    · simp [List.getD, hz, ofConst0_R]
    · simp [List.getD, hz, SV.R]
  · rw [List.getElem?_eq_none (by simpa using hi)] at h1
    cases h1
theorem buildSliceN_ok {t : TypeId} {len : Nat} {parts : Array (Nat × Operand)} (hop : o.op = .buildSlice t len parts) (hR : RO ρ f g) (R : Rep C ρ H nx w)
    (h : buildSliceN P H nx t len (parts.toList.map fun (i, x) => (i, f x)) = some r) : NOk P C ρ nx g o r w := by
  unfold buildSliceN at h
  split at h
  · rename_i e hu
    split at h
    · rename_i i hi
      split at h
      · rename_i z hz
        split at h
        · rename_i hz1 hz2 hz3
          have hz1 := Nat.eq_of_beq_eq_true hz1
          have hz2 := Nat.le_of_ble_eq_true hz2
          have hz3 := Nat.le_of_ble_eq_true hz3
          split at h
          · rename_i c hc
            split at h
            · rename_i hall
              cases h
              unfold zeroL at hz
              split at hz
              · rename_i zv hzv
                cases hz
                obtain ⟨vc, v1, v2⟩ := fill_R _ _ _ _ _ (partsR_map hR parts.toList) (repeat_R ρ zv.cells (len * i.size)) hc
                have hlen : vc.size = len * i.size := by
                  have e1 := RL_length v2
                  rw [sfill_length _ _ _ hc] at e1
                  simp [repeatL] at e1
                  exact e1.symm
                refine nok_alloc (cs := vc) (t := e) (v := .slice (some ⟨w.heap.size, 0, none⟩) len len) R (fun ρ' hx hn => cells_new (RL_mono hx _ _ v2) (fun x hx => List.all_eq_true.1 hall x hx)) (fun ρ' hx hn => ?_) ?_
                · simp only [SV.R]
                  refine ⟨trivial, by simp, _, some ⟨w.heap.size, 0, none⟩, len, hn, by simp, by simp, (by simp only [maxLen]; omega), fun q hq => by cases hq; simp, fun _ => ⟨_, rfl, by simp [Off.n, Addr.add], ?_⟩⟩
                  simp only [Off.n]; omega
                · have hz2' : ¬ (len * i.size > 2 ^ 24) := by omega
                  have v1 : Instr.fill (fun q => some (q * i.size, i.size)) ((Array.range (len * i.size)).map (zv.cells[· % zv.cells.size]!)) (parts.map fun (q, x) => (q, g x)).toList = some vc := by
                    rw [Array.toList_map]; exact v1
                  have run : (Instr.buildSlice t len (parts.map fun (q, x) => (q, g x))).run P w = .ok (.slice (some ⟨w.heap.size, 0, none⟩) len len) (w.alloc (.cells vc e)) := by
                    simp only [Instr.buildSlice, Sem.run_bind, run_underlying hu, Result.andThen_ok, run_size hi, hz2', if_false]
                    by_cases h0 : len * i.size = 0
                    · have ea : ∀ φ : Nat → Value, (Array.range (len * i.size)).map φ = #[] := fun φ => Array.eq_empty_of_size_eq_zero (by simp [h0])
                      rw [ea] at v1
                      rw [if_pos h0]
                      simp only [Sem.run_pure, Result.andThen_ok, ea, v1, newRow, Sem.run_bind, run_newObj]
                      rfl
                    · rw [if_neg h0]
                      have hzr : (zeroValue e).run P w = .ok zv w := by simp [zeroValue, typeInfo, hi, hzv]
                      simp only [Sem.run_bind, hzr, Sem.run_pure, Result.andThen_ok, v1, newRow, run_newObj]
                      rfl
                  unfold execOp
                  simp only [hop, Sem.run_bind, run, Result.andThen_ok, Sem.run_pure]
              · cases hz
            · cases h
          · cases h
        · cases h
      · cases h
    · cases h
  · cases h
end

end Go.Sx
