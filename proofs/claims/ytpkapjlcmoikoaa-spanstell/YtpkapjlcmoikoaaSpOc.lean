import Derived.Test.YtpkapjlcmoikoaaSpRef
import Derived.Test.YtpkapjlcmoikoaaSpA
set_option linter.all false
/-
  The reference's opens and closes.
-/
namespace Go.Sx
open Go
def Xf43 : Cfg := ⟨[43], [], false⟩
def Xf44 : Cfg := ⟨[44], [], false⟩
set_option maxRecDepth 100000
set_option maxHeartbeats 4000000
set_option linter.all false
section
variable (k e : Int) (hk : k = 0 ∨ k = 1 ∨ k = 2)
include hk
theorem spec_refcloses : Spec PP 43 [.int .i8 (.sh k), .int .i8 (.sh e)] [] 0 (fun out => (closesK k e = true ∧ out = .val (.bool (.bl true))) ∨ ∃ z : Int, (E.cmp BinOp.eql (.sh e) (.lit z)).b = closesK k e ∧ out = .val (.bool (.cmp BinOp.eql (.sh e) (.lit z)))) := by
  intro C
  refine CallOb.of_run (X := Xf43) m1 (by decide +kernel) (by decide +kernel) 3000 fun O hO => ?_
  cbv
  repeat' (first | refine Br.mk (fun _ => ?_) (fun _ => ?_))
  all_goals simp only [t_eql, f_eql, E.i_sh, E.i_lit] at *
  all_goals first | refine ⟨_, .inr ⟨_, ?_, rfl⟩, rfl⟩ | refine ⟨_, .inl ⟨?_, rfl⟩, rfl⟩
  all_goals unfold closesK
  all_goals first | rw [decide_eq_true_eq]; omega | skip
  all_goals rw [Bool.eq_iff_iff, decide_eq_true_eq]
  all_goals (rw [t_eql]; simp only [E.i_sh, E.i_lit]; omega)
theorem spec_refopens : Spec PP 44 [.int .i8 (.sh k), .int .i8 (.sh e)] [] 0 (fun out => ∃ z : Int, (E.cmp BinOp.eql (.sh e) (.lit z)).b = opensK k e ∧ out = .val (.bool (.cmp BinOp.eql (.sh e) (.lit z)))) := by
  intro C
  refine CallOb.of_run (X := Xf44) m1 (by decide +kernel) (by decide +kernel) 3000 fun O hO => ?_
  cbv
  repeat' (first | refine Br.mk (fun _ => ?_) (fun _ => ?_))
  all_goals simp only [t_eql, f_eql, E.i_sh, E.i_lit] at *
  all_goals refine ⟨_, ⟨_, ?_, rfl⟩, rfl⟩
  all_goals unfold opensK
  all_goals rw [Bool.eq_iff_iff, decide_eq_true_eq]
  all_goals first | (rw [t_eql]; simp only [E.i_sh, E.i_lit]; omega) | (rw [E.b_bl]; simp only [true_iff]; omega)
end
end Go.Sx
