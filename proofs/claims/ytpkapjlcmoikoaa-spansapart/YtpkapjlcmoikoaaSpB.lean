import Derived.Test.YtpkapjlcmoikoaaSpA
set_option linter.all false
namespace Go.Sx
open Go
def Xthere : Cfg := ⟨[11], [], false⟩
set_option maxRecDepth 100000
section
variable (n core t : Int) (tm fcore kind fk flat : Int → Int)
open Classical in
noncomputable def thereB : Bool := decide (∃ i : Int, 0 ≤ i ∧ i < n ∧ fcore i = core ∧ tm i = t)
theorem spec_there (h0 : 0 ≤ n) (h1 : n ≤ 140737488355328) : Spec PP 11 [.sl 0 5 (.c 0) (.sh n) none, .int .i64 (.sh core), .int .i64 (.sh t)] [(0, false, .row 31 5 (.sh n) (rowL tm fcore kind fk flat))] 1 (fun out => out = .val (.bool (.bl (thereB n core t tm fcore)))) := by
  intro C
  refine CallOb.of_run (X := Xthere) m1 (by decide +kernel) (by decide +kernel) 3000 fun O hO => ?_
  cbv
  refine hO.lo (loop_rule (ι := { i : Int // 0 ≤ i ∧ i ≤ n ∧ ∀ j : Int, 0 ≤ j → j < i → ¬ (fcore j = core ∧ tm j = t) }) (fun i => ⟨live 30 [(0, .sl 0 5 (.c 0) (.sh n) none), (1, .int .i64 (.sh core)), (2, .int .i64 (.sh t)), (6, .bool (.bl false)), (7, .int .i64 (.sh i.1))], [(0, false, .row 31 5 (.sh n) (rowL tm fcore kind fk flat))], 1, []⟩) (fun i => (n - i.1).toNat) ⟨0, Int.le_refl _, h0, fun j h2 h3 => by omega⟩ [] ?_ (fun h hh => by cases hh) (fun _ => rfl) fun i => ?_)
  · constructor
    · cbv; repeat' apply And.intro
      all_goals first | exact trivial | exact ⟨rfl⟩ | exact noCap
    · cbv; exact ⟨⟨fun h => h, ⟨rfl⟩, fun e e' j h _ _ hj => rowL_le e e' j h hj⟩, trivial⟩
    · cbv
    · cbv
    · cbv
  · refine Snd.of_run (X := Xthere) m1 (by decide +kernel) (by decide +kernel) 3000 (by decide +kernel) fun O hO => ?_
    obtain ⟨i, hi0, hi, hno⟩ := i
    cbv
    have next : i < n → ¬ (fcore i = core ∧ tm i = t) → ∃ y : { i : Int // 0 ≤ i ∧ i ≤ n ∧ ∀ j : Int, 0 ≤ j → j < i → ¬ (fcore j = core ∧ tm j = t) }, y.1 = i + 1 ∧ (n - y.1).toNat < (n - i).toNat := fun h h' =>
      ⟨⟨i + 1, by omega, by omega, fun j h2 h3 => by
        rcases Int.lt_or_eq_of_le (Int.le_of_lt_add_one h3) with h4 | h4
        · exact hno j h2 h4
        · rw [h4]; exact h'⟩, rfl, by simp only; omega⟩
    repeat' (first | refine Br.mk (fun _ => ?_) (fun _ => ?_) | refine Ast.mk ?_ ?_)
    all_goals simp only [t_lss, f_lss, t_leq, t_eql, f_eql, E.i_sh, E.i_lit, E.i_f1] at *
    all_goals try omega
    · refine ⟨_, rfl, ?_⟩
      have : thereB n core t tm fcore = true := @decide_eq_true _ (Classical.propDecidable _) ⟨i, by omega, by omega, by omega, by omega⟩
      rw [this]
      rfl
    · obtain ⟨⟨y, py⟩, hy, hlt⟩ := next (by omega) (by omega)
      simp only at hy
      subst hy
      refine ⟨⟨i + 1, py⟩, [], ⟨?_, ?_, ?_, ?_, ?_⟩, hlt⟩
      · cbv; repeat' apply And.intro
        all_goals first | exact trivial | exact ⟨rfl⟩ | exact noCap | exact ⟨wrap64 (x := i + 1) (by omega) (by omega)⟩
      · cbv; exact ⟨⟨fun h => h, ⟨rfl⟩, fun e e' j h _ _ hj => rowL_le e e' j h hj⟩, trivial⟩
      · cbv
      · cbv
      · cbv
    · obtain ⟨⟨y, py⟩, hy, hlt⟩ := next (by omega) (by omega)
      simp only at hy
      subst hy
      refine ⟨⟨i + 1, py⟩, [], ⟨?_, ?_, ?_, ?_, ?_⟩, hlt⟩
      · cbv; repeat' apply And.intro
        all_goals first | exact trivial | exact ⟨rfl⟩ | exact noCap | exact ⟨wrap64 (x := i + 1) (by omega) (by omega)⟩
      · cbv; exact ⟨⟨fun h => h, ⟨rfl⟩, fun e e' j h _ _ hj => rowL_le e e' j h hj⟩, trivial⟩
      · cbv
      · cbv
      · cbv
    · refine ⟨_, rfl, ?_⟩
      have : thereB n core t tm fcore = false := @decide_eq_false _ (Classical.propDecidable _) fun ⟨j, h2, h3, h4, h5⟩ => hno j h2 (by omega) ⟨h4, h5⟩
      rw [this]
      rfl
end
end Go.Sx
