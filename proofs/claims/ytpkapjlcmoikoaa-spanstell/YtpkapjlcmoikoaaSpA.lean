import Derived.Test.YtpkapjlcmoikoaaSxW
import Derived.Test.YtpkapjlcmoikoaaProg
set_option linter.all false
/-
  Logs and spans, symbolic.
-/
namespace Go.Sx
open Go
noncomputable abbrev PP : Program := Go.Proofs.Try.prog
theorem m1 : PP.follows .mixedOrders = true := by kernel_rfl
def rowL (tm core kind k flat : Int → Int) : Nat → E → SV
  | 0, e => .int .i64 (.f1 tm e)
  | 1, e => .int .i64 (.f1 core e)
  | 2, e => .int .i8 (.f1 kind e)
  | 3, e => .int .i64 (.f1 k e)
  | 4, e => .int .i8 (.f1 flat e)
  | _, _ => .any
/-- n temporaries, of which these are known -/
def live (n : Nat) (l : List (Nat × SV)) : List SV := (List.range n).map fun i => get i l
where get (i : Nat) : List (Nat × SV) → SV
  | [] => .any
  | (j, v) :: r => match Nat.beq i j with
    | true => v
    | false => get i r
theorem wrap64 {x : Int} (h1 : -9223372036854775808 ≤ x) (h2 : x < 9223372036854775808) : IntKind.i64.wrap x = x := by
  simp only [IntKind.wrap, IntKind.bits, IntKind.signed]
  simp
  omega
theorem rowL_le {S : Nat → Option Src} {tm core kind k flat : Int → Int} : ∀ (e e' : E) (j : Nat), e.i = e'.i → j < 5 → SVle S (rowL tm core kind k flat j e) (rowL tm core kind k flat j e')
  | e, e', 0, h, _ => by simp only [rowL, SVle]; exact ⟨trivial, ⟨by rw [E.i_f1, E.i_f1, h]⟩⟩
  | e, e', 1, h, _ => by simp only [rowL, SVle]; exact ⟨trivial, ⟨by rw [E.i_f1, E.i_f1, h]⟩⟩
  | e, e', 2, h, _ => by simp only [rowL, SVle]; exact ⟨trivial, ⟨by rw [E.i_f1, E.i_f1, h]⟩⟩
  | e, e', 3, h, _ => by simp only [rowL, SVle]; exact ⟨trivial, ⟨by rw [E.i_f1, E.i_f1, h]⟩⟩
  | e, e', 4, h, _ => by simp only [rowL, SVle]; exact ⟨trivial, ⟨by rw [E.i_f1, E.i_f1, h]⟩⟩
  | _, _, j + 5, _, h => by omega
theorem noCap {A : E → Prop} : ∀ e', (none : Option E) = some e' → A e' := fun e' h => by cases h
section
variable (a b : E)
theorem t_lss : ((E.cmp .lss a b).b = true) = (a.i < b.i) := propext ⟨fun h => of_decide_eq_true h, fun h => decide_eq_true h⟩
theorem f_lss : ((E.cmp .lss a b).b = false) = (b.i ≤ a.i) := propext ⟨fun h => Int.not_lt.1 (of_decide_eq_false h), fun h => decide_eq_false (Int.not_lt.2 h)⟩
theorem t_leq : ((E.cmp .leq a b).b = true) = (a.i ≤ b.i) := propext ⟨fun h => of_decide_eq_true h, fun h => decide_eq_true h⟩
theorem f_leq : ((E.cmp .leq a b).b = false) = (b.i < a.i) := propext ⟨fun h => Int.not_le.1 (of_decide_eq_false h), fun h => decide_eq_false (Int.not_le.2 h)⟩
theorem t_gtr : ((E.cmp .gtr a b).b = true) = (b.i < a.i) := propext ⟨fun h => of_decide_eq_true h, fun h => decide_eq_true h⟩
theorem f_gtr : ((E.cmp .gtr a b).b = false) = (a.i ≤ b.i) := propext ⟨fun h => Int.not_lt.1 (of_decide_eq_false h), fun h => decide_eq_false (Int.not_lt.2 h)⟩
theorem t_geq : ((E.cmp .geq a b).b = true) = (b.i ≤ a.i) := propext ⟨fun h => of_decide_eq_true h, fun h => decide_eq_true h⟩
theorem f_geq : ((E.cmp .geq a b).b = false) = (a.i < b.i) := propext ⟨fun h => Int.not_le.1 (of_decide_eq_false h), fun h => decide_eq_false (Int.not_le.2 h)⟩
theorem t_eql : ((E.cmp .eql a b).b = true) = (a.i = b.i) := by
  rw [E.b_cmp]; simp [cmpD]
theorem f_eql : ((E.cmp .eql a b).b = false) = ¬ (a.i = b.i) := by
  rw [E.b_cmp]; simp [cmpD]
theorem t_neq : ((E.cmp .neq a b).b = true) = ¬ (a.i = b.i) := by
  rw [E.b_cmp]; simp [cmpD]
theorem f_neq : ((E.cmp .neq a b).b = false) = (a.i = b.i) := by
  rw [E.b_cmp]; simp [cmpD]
theorem t_not : ((E.not a).b = true) = (a.b = false) := by
  rw [E.b_not]; simp
theorem f_not : ((E.not a).b = false) = (a.b = true) := by
  rw [E.b_not]; simp
theorem i_add : (E.ar .add .i64 a b).i = IntKind.i64.wrap (a.i + b.i) := rfl
theorem i_sub : (E.ar .sub .i64 a b).i = IntKind.i64.wrap (a.i - b.i) := rfl
end
end Go.Sx
