import Derived.Test.YtpkapjlcmoikoaaSxV
import Derived.Sort.Grow
set_option linter.all false
/-
  Rows of the run's own, handed to a function that is known by a contract of the shelf.
-/
namespace Go.Sx
open Go Go.Sort

/-- a call's state that says less -/
theorem CallOb.le {P : Program} {C : Cx} {f : FuncId} {args args' : List SV} {H H' : Heap} {nx nx' : Nat} {k : SV → Heap → Nat → Prop} (σ : List Src) (hle : Le nx σ ⟨args, H, nx, []⟩ ⟨args', H', nx', []⟩) (hc : CallOb P C f args' H' nx' k) : CallOb P C f args H nx k := by
  refine ⟨fun ρ vs w R ro hargs hrep hR => ?_⟩
  have hS : Sim C ρ ⟨args, H, nx, []⟩ { tmps := vs, defers := ρ.d.map fun b => { target := .collected b, args := #[] } } w := ⟨hargs, hrep, rfl⟩
  obtain ⟨hS', hag⟩ := hle.sim hS (Nat.le_refl _)
  refine hc.h _ vs w R ro hS'.tm hS'.rep fun s v H2 nx2 ρ2 w2 g1 g2 g3 g4 gd g5 => hR s v H2 nx2 ρ2 w2 g1 g2 g3 (hag.trans g4 ?_) gd ?_
  · have := hle.nx
    simp only at this
    omega
  · have := hle.nx
    simp only at this
    omega

section
variable {α : Type} [Inhabited α] {enc : α → Value} {C : Cx} {ρ : Rho} {H : Heap} {nx : Nat} {w : World}
theorem own_frozen {p : Pl} (h : OwnBlock w p) (n : Nat) : w.frozen? (p.a.add n) = false := by
  obtain ⟨c, t, h1, h2, h3⟩ := h
  simp only [World.frozen?, Addr.add_block, h1]
  simp
theorem addr_at {p : Pl} (h : OwnBlock w p) (n : Nat) : p.a.add n = ⟨p.a.block, p.a.off + n, none⟩ := by
  obtain ⟨c, t, h1, h2, h3⟩ := h
  have e1 := Addr.add_block p.a n
  have e2 := Addr.add_off p.a n
  have e3 := Addr.add_spot h3 n
  generalize p.a.add n = a at *
  cases a
  simp_all
/-- the row's cells are these -/
theorem holds_of_row (R : Rep C ρ H nx w) {h : Nat} {t : TypeId} {k : Nat} {n : E} {F : Nat → E → SV} (hf : hfind H h = some (true, .row t k n F)) {p : Pl} (hp : ρ h = some (some p)) (d : Array α) (hd : d.size = n.i.toNat * k) (hk : 0 < k)
    (hF : ∀ (e : E) (j : Nat), 0 ≤ e.i → e.i < n.i → j < k → ∀ v, SV.R ρ (F j e) v → v = enc d[e.i.toNat * k + j]!) : Holds enc w p.a.block p.a.off d := by
  intro q hq
  obtain ⟨how, _⟩ := R.own h _ p hf hp
  have how : OwnBlock w p := how
  have ho := hfind_cell R hf hp
  have h1 : q / k < n.i.toNat := by
    rw [hd, Nat.mul_comm] at hq
    exact Nat.div_lt_of_lt_mul hq
  have h2 : q % k < k := Nat.mod_lt _ hk
  have e : q / k * k + q % k = q := by rw [Nat.mul_comm]; exact Nat.div_add_mod q k
  have hi : (E.lit ((q / k : Nat) : Int)).i.toNat = q / k := by rw [E.i_lit, Int.toNat_natCast]
  obtain ⟨p', x, hp', hc, hone, hr⟩ := ho.2 (.lit ((q / k : Nat) : Int)) (q % k) (by rw [E.i_lit]; omega) (by rw [E.i_lit]; omega) h2
  cases hp'
  have hv := hF (.lit ((q / k : Nat) : Int)) (q % k) (by rw [E.i_lit]; omega) (by rw [E.i_lit]; omega) h2 x hr
  rw [hi, e] at hv hc
  rw [addr_at how] at hc
  refine ⟨by rw [hc, hv], ?_⟩
  rw [← addr_at how]
  exact own_frozen how q

theorem putRow_other (d : Array α) (b off b' : Nat) (hb : b' ≠ b) : (putRow enc w b off d).heap[b']? = w.heap[b']? := by
  simp only [putRow, mapBlock, Array.getElem?_modify]
  rw [if_neg (fun e => hb e.symm)]

/-- another row in its place; new blocks behind -/
theorem Rep.putRow (R : Rep C ρ H nx w) {h : Nat} {t : TypeId} {k : Nat} {n : E} {F : Nat → E → SV} (hf : hfind H h = some (true, .row t k n F)) {p : Pl} (hp : ρ h = some (some p)) (d0 d : Array α) (h0 : Holds enc w p.a.block p.a.off d0) (hsz : d.size = d0.size) (hd : d.size = n.i.toNat * k)
    (q : Nat) (os : Array Obj) (F' : Nat → E → SV) (hF : ∀ (e : E) (j : Nat), 0 ≤ e.i → e.i < n.i → j < k → SV.R ρ (F' j e) (enc d[e.i.toNat * k + j]!)) (hone : ∀ j, j < d.size → (enc d[j]!).oneCell' = true) :
    Rep C ρ (hset H h (true, .row t k n F')) nx (Go.Sort.grow (Go.Sort.putRow enc (Go.Sort.ahead w q) p.a.block p.a.off d) os) := by
  obtain ⟨how, _⟩ := R.own h _ p hf hp
  have how : OwnBlock w p := how
  have hown' : OwnBlock (Go.Sort.putRow enc (Go.Sort.ahead w q) p.a.block p.a.off d) p := by
    obtain ⟨c, t, h1, h2, h3⟩ := how
    refine ⟨putCells enc p.a.off d c, t, ?_, by simpa [putCells] using h2, h3⟩
    show (Array.modify w.heap p.a.block _)[p.a.block]? = _
    rw [Array.getElem?_modify, if_pos rfl, h1]
    rfl
  have R1 : Rep C ρ (hset H h (true, .row t k n F')) nx (Go.Sort.putRow enc (Go.Sort.ahead w q) p.a.block p.a.off d) := by
    refine R.write hf hp (fun b hb => ?_) (by rw [size_putRow]; rfl) hown' rfl rfl rfl ?_
    · exact putRow_other (w := Go.Sort.ahead w q) d _ _ b hb
    · have ho := hfind_cell R hf hp
      refine ⟨ho.1, fun e j e1 e2 e3 => ⟨p, enc d[e.i.toNat * k + j]!, rfl, ?_, ?_, hF e j e1 e2 e3⟩⟩
      · have hlt : e.i.toNat * k + j < d.size := by
          rw [hd]
          have : (e.i.toNat + 1) * k ≤ n.i.toNat * k := Nat.mul_le_mul_right _ (by omega)
          rw [Nat.add_mul] at this
          omega
        rw [addr_at how]
        exact (holds_putRow enc (Go.Sort.ahead w q) p.a.block p.a.off d0 d h0 hsz _ hlt).1
      · refine hone _ ?_
        rw [hd]
        have : (e.i.toNat + 1) * k ≤ n.i.toNat * k := Nat.mul_le_mul_right _ (by omega)
        rw [Nat.add_mul] at this
        omega
  exact R1.grow (fun b hb => heap_grow_old _ _ hb) (by rw [size_grow]; omega) rfl rfl rfl
end
end Go.Sx
