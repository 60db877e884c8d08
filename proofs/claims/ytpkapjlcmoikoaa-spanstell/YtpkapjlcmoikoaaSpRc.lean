import Derived.Test.YtpkapjlcmoikoaaSpE
import Derived.Test.YtpkapjlcmoikoaaSpY
set_option linter.all false
/-
  The reference's Cut.
-/
namespace Go.Sx
open Go
def Xf25 : Cfg := ⟨[25], [], false⟩
set_option maxRecDepth 100000
set_option maxHeartbeats 4000000
set_option linter.all false
theorem cut_unique {n t k k' : Int} {tm : Int → Int} (h : CutAt n tm t k) (h' : CutAt n tm t k') : k = k' := by
  obtain ⟨a1, a2, a3, a4⟩ := h
  obtain ⟨b1, b2, b3, b4⟩ := h'
  rcases Int.lt_trichotomy k k' with g | g | g
  · have := b3 k a1 g
    have := a4 (by omega)
    omega
  · exact g
  · have := a3 k' b1 g
    have := b4 (by omega)
    omega
section
variable (n : Int) (N : Int) (tm core kind fk flat : Int → Int) (t : Int)
theorem spec_refcut (h0 : 0 ≤ n) (h1 : n ≤ N) (hN : N ≤ 140737488355328) : Spec PP 25 [.sl 0 5 (.c 0) (.sh n) none, .int .i64 (.sh t)] [(0, false, .row 31 5 (.sh N) (rowL tm core kind fk flat))] 1
    (fun out => ∃ k, CutAt n tm t k ∧ out = .sub 0 5 (.c 0) (.sh k)) := by
  intro C
  refine CallOb.of_run (X := Xf25) m1 (by decide +kernel) (by decide +kernel) 3000 fun O hO => ?_
  cbv
  refine hO.lo (loop_rule' (ι := { i : Int // 0 ≤ i ∧ i ≤ n ∧ ∀ j : Int, 0 ≤ j → j < i → tm j < t })
    (fun st i => ⟨liveK st.tmps [0, 1] [(5, .int .i64 (.sh i.1))],
      [(0, false, .row 31 5 (.sh N) (rowL tm core kind fk flat))], 1, []⟩)
    (fun i => (n - i.1).toNat) ⟨0, Int.le_refl _, h0, fun j h2 h3 => by omega⟩ [] ?_ (fun h hh => by cases hh) (fun _ => rfl) fun i => ?_)
  · constructor
    · cbv; repeat' apply And.intro
      all_goals first | exact trivial | exact ⟨rfl⟩ | exact noCap
    · cbv; repeat' apply And.intro
      all_goals first | exact trivial | exact ⟨rfl⟩ | exact fun h => h | exact fun e e' j h _ _ hj => rowL_le e e' j h hj
    · cbv
    · cbv
    · cbv
  · refine Snd.of_run (X := Xf25) m1 (by decide +kernel) (by decide +kernel) 3000 (by decide +kernel) fun O hO => ?_
    obtain ⟨i, hi0, hi, hno⟩ := i
    cbv
    repeat' (first | refine Br.mk (fun _ => ?_) (fun _ => ?_) | refine Ast.mk ?_ ?_)
    all_goals simp only [t_lss, f_lss, t_leq, f_leq, t_geq, f_geq, E.i_sh, E.i_lit, E.i_f1, E.i_plus, Int.ofNat_eq_natCast] at *
    all_goals try omega
    · exact ⟨_, ⟨i, ⟨hi0, hi, hno, fun _ => by assumption⟩, rfl⟩, by omega, rfl⟩
    · refine ⟨⟨i + 1, by omega, by omega, fun j h2 h3 => ?_⟩, [], ⟨?_, ?_, ?_, ?_, ?_⟩, ?_⟩
      · rcases Int.lt_or_eq_of_le (Int.le_of_lt_add_one h3) with h4 | h4
        · exact hno j h2 h4
        · subst h4; assumption
      · cbv; repeat' apply And.intro
        all_goals first | exact trivial | exact ⟨rfl⟩ | exact noCap | exact ⟨wrap64 (x := i + 1) (by omega) (by omega)⟩
      · cbv; repeat' apply And.intro
        all_goals first | exact trivial | exact ⟨rfl⟩ | exact fun h => h | exact fun e e' j h _ _ hj => rowL_le e e' j h hj
      · cbv
      · cbv
      · cbv
      · simp only; omega
    · exact ⟨_, ⟨n, ⟨h0, Int.le_refl _, fun j h2 h3 => hno j h2 (by omega), fun h => by omega⟩, rfl⟩, by omega, rfl⟩
end
end Go.Sx
