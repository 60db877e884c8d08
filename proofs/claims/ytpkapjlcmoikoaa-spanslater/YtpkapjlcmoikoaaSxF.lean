import Derived.Test.YtpkapjlcmoikoaaSxE
import Derived.Laws.Tables
set_option linter.all false
/-
  Structs and arrays that are built; slices that are cut; the quiet operations, all.
-/
namespace Go.Sx
open Go

def setAll : List SV → Nat → List SV → List SV
  | cells, _, [] => cells
  | cells, off, v :: r => setAll (setT cells off v) (off + 1) r
theorem setAll_length : ∀ (l : List SV) (cells : List SV) (off : Nat), (setAll cells off l).length = cells.length
  | [], _, _ => rfl
  | v :: r, cells, off => by simp [setAll, setAll_length r, setT_eq]
def sfill (place : Nat → Option (Nat × Nat)) : List SV → List (Nat × SV) → Option (List SV)
  | cells, [] => some cells
  | cells, (i, v) :: rest => match place i with
    | none => none
    | some (off, size) => match v.cellsO with
      | none => none
      | some l => match Nat.beq l.length size, Nat.ble (off + l.length) cells.length with
        | true, true => sfill place (setAll cells off l) rest
        | _, _ => none

theorem setAll_R {ρ : Rho} : ∀ (l : List SV) (vs : List Value) (cells : List SV) (arr : Array Value) (off n : Nat), SV.RL ρ l vs → SV.RL ρ cells arr.toList →
    SV.RL ρ (setAll cells (off + n) l) ((vs.zipIdx n).foldl (fun cs (x : Value × Nat) => cs.setIfInBounds (off + x.2) x.1) arr).toList
  | [], [], cells, arr, off, n, _, h => by simpa [setAll] using h
  | s :: l, v :: vs, cells, arr, off, n, hl, h => by
    simp only [SV.RL] at hl
    simp only [setAll, List.zipIdx_cons, List.foldl_cons, setT_eq]
    have := setAll_R l vs (cells.set (off + n) s) (arr.setIfInBounds (off + n) v) off (n + 1) hl.2 (by
      rw [Array.toList_setIfInBounds]; exact RL_set h _ hl.1)
    exact this
  | [], _ :: _, _, _, _, _, h, _ => by simp [SV.RL] at h
  | _ :: _, [], _, _, _, _, h, _ => by simp [SV.RL] at h

def PartsR (ρ : Rho) : List (Nat × SV) → List (Nat × Value) → Prop
  | [], [] => True
  | (i, s) :: l, (j, v) :: r => i = j ∧ SV.R ρ s v ∧ PartsR ρ l r
  | _, _ => False

theorem fill_R {ρ : Rho} {place : Nat → Option (Nat × Nat)} : ∀ (parts : List (Nat × SV)) (vparts : List (Nat × Value)) (cells : List SV) (arr : Array Value) (c : List SV),
    PartsR ρ parts vparts → SV.RL ρ cells arr.toList → sfill place cells parts = some c → ∃ vc, Instr.fill place arr vparts = some vc ∧ SV.RL ρ c vc.toList
  | [], [], cells, arr, c, _, h, e => by simp only [sfill] at e; cases e; exact ⟨arr, rfl, h⟩
  | (i, s) :: l, (j, v) :: r, cells, arr, c, hp, h, e => by
    simp only [PartsR] at hp
    obtain ⟨rfl, hs, hp⟩ := hp
    simp only [sfill] at e
    split at e
    · cases e
    · rename_i off size hpl
      split at e
      · cases e
      · rename_i m hm
        split at e
        · rename_i h1 h2
          have h1 := Nat.eq_of_beq_eq_true h1
          have h2 := Nat.le_of_ble_eq_true h2
          obtain ⟨hr, _⟩ := cellsO_R hs hm
          have hlen := RL_length hr
          have hlen2 := RL_length h
          have ih := fill_R l r (setAll cells off m) _ c hp (by
            have := setAll_R m v.cells.toList cells arr off 0 hr h
            simpa using this) e
          obtain ⟨vc, hvc, hrc⟩ := ih
          refine ⟨vc, ?_, hrc⟩
          simp only [Instr.fill, hpl]
          have hsz : v.cells.size = m.length := by simpa using hlen.symm
          have hsz2 : cells.length = arr.size := by simpa using hlen2
          rw [if_neg (by simp only [ne_eq, Bool.or_eq_true, decide_eq_true_eq, gt_iff_lt, not_or]; omega)]
          rw [← hvc]
          congr 1
          rw [← Array.foldl_toList]
          simp
        · cases e
  | [], _ :: _, _, _, _, h, _, _ => by simp [PartsR] at h
  | _ :: _, [], _, _, _, h, _, _ => by simp [PartsR] at h

def zeroL (i : TypeInfo) : Option (List SV) :=
  match i.zero with
  | some v => some (v.cells.toList.map ofConst0)
  | none => none
def placesL (P : Program) : List Field → Option (List (Nat × Nat))
  | [] => some []
  | f :: fs => match P.info? f.type, placesL P fs with
    | some i, some r => some ((f.offset, i.size) :: r)
    | _, _ => none
theorem placesL_eq (P : Program) : ∀ fs, placesL P fs = fs.mapM (fun f => (P.info? f.type).map fun i => (f.offset, i.size))
  | [] => rfl
  | f :: fs => by
    simp only [placesL, List.mapM_cons, placesL_eq P fs]
    cases P.info? f.type with
    | none => simp
    | some i =>
      cases fs.mapM (fun f => (P.info? f.type).map fun i => (f.offset, i.size)) <;> simp

def builtS (P : Program) (t : TypeId) (parts : List (Nat × SV)) : Option (List SV) :=
  match P.info? t with
  | none => none
  | some it => match zeroL it with
    | none => none
    | some z => match P.underlying t with
      | some (.array _ e) => match P.info? e with
        | some ie => sfill (fun i => some (i * ie.size, ie.size)) z parts
        | none => none
      | some (.struct fields) => match placesL P fields.toList with
        | some places => sfill (fun i => places[i]?) z parts
        | none => none
      | _ => none
theorem builtS_R {P : Program} {ρ : Rho} {t : TypeId} {parts : List (Nat × SV)} {vparts : List (Nat × Value)} {c : List SV} (h : builtS P t parts = some c) (hp : PartsR ρ parts vparts) :
    ∃ vc, P.built t vparts = some vc ∧ SV.RL ρ c vc.toList := by
  unfold builtS at h
  split at h
  · cases h
  · rename_i it hit
    split at h
    · cases h
    · rename_i z hz
      unfold zeroL at hz
      split at hz
      · rename_i v hv
        cases hz
        have hzr : SV.RL ρ (v.cells.toList.map ofConst0) v.cells.toList := map_ofConst0_R ρ _
        split at h
        · rename_i n e hu
          split at h
          · rename_i ie hie
            obtain ⟨vc, h1, h2⟩ := fill_R _ _ _ v.cells _ hp hzr h
            exact ⟨vc, by simp only [Program.built, hit, hu, hv, hie]; exact h1, h2⟩
          · cases h
        · rename_i fields hu
          split at h
          · rename_i places hpl
            obtain ⟨vc, h1, h2⟩ := fill_R _ _ _ v.cells _ hp hzr h
            rw [placesL_eq] at hpl
            exact ⟨vc, by simp only [Program.built, hit, hu, hv, hpl]; simpa using h1, h2⟩
          · cases h
        · cases h
      · cases hz

theorem partsR_map {ρ : Rho} {f : Operand → SV} {g : Operand → Value} (hR : RO ρ f g) : ∀ l : List (Nat × Operand), PartsR ρ (l.map fun (i, x) => (i, f x)) (l.map fun (i, x) => (i, g x))
  | [] => by simp [PartsR]
  | (i, x) :: r => by simp only [List.map_cons, PartsR]; exact ⟨trivial, hR x, partsR_map hR r⟩
theorem RL_map {ρ : Rho} {f : Operand → SV} {g : Operand → Value} (hR : RO ρ f g) : ∀ l : List Operand, SV.RL ρ (l.map f) (l.map g)
  | [] => by simp [SV.RL]
  | x :: r => by simp only [List.map_cons, SV.RL]; exact ⟨hR x, RL_map hR r⟩

end Go.Sx
