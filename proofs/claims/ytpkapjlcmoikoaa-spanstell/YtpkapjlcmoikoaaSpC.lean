import Derived.Test.YtpkapjlcmoikoaaSpA
set_option linter.all false
namespace Go.Sx
open Go
def Xmay : Cfg := ⟨[23, 10], [], false⟩
set_option maxRecDepth 100000
section
variable (n : Int) (tm core kind fk flat : Int → Int)
/-- entry i is in its place -/
def okAt (i : Int) : Prop := 0 ≤ tm i ∧ (0 < i → tm (i - 1) < tm i) ∧ 1 ≤ core i ∧ core i ≤ 8 ∧ 0 ≤ kind i ∧ kind i ≤ 13
open Classical in
noncomputable def mayB : Bool := decide (∀ i : Int, 0 ≤ i → i < n → okAt tm core kind i)
theorem mayB_true (h : ∀ i : Int, 0 ≤ i → i < n → okAt tm core kind i) : mayB n tm core kind = true := @decide_eq_true _ (Classical.propDecidable _) h
theorem mayB_false {i : Int} (h0 : 0 ≤ i) (h1 : i < n) (h : ¬ okAt tm core kind i) : mayB n tm core kind = false := @decide_eq_false _ (Classical.propDecidable _) fun hh => h (hh i h0 h1)
theorem mayB_iff : mayB n tm core kind = true ↔ ∀ i : Int, 0 ≤ i → i < n → okAt tm core kind i := ⟨fun h => @of_decide_eq_true _ (Classical.propDecidable _) h, mayB_true n tm core kind⟩

theorem spec_may (lo N : Int) (hlo : 0 ≤ lo) (h0 : 0 ≤ n) (h1 : lo + n ≤ N) (hN : N ≤ 140737488355328) : Spec PP 23 [.sl 0 5 (.ix (.sh lo) 5 0) (.sh n) none] [(0, false, .row 31 5 (.sh N) (rowL tm core kind fk flat))] 1 (fun out => out = .val (.bool (.bl (mayB n (fun i => tm (lo + i)) (fun i => core (lo + i)) (fun i => kind (lo + i)))))) := by
  intro C
  refine CallOb.of_run (X := Xmay) m1 (by decide +kernel) (by decide +kernel) 3000 fun O hO => ?_
  cbv
  refine hO.lo (loop_rule (ι := { x : Int × Int // 0 ≤ x.1 ∧ x.1 ≤ n ∧ (∀ j : Int, 0 ≤ j → j < x.1 → okAt (fun i => tm (lo + i)) (fun i => core (lo + i)) (fun i => kind (lo + i)) j) ∧ (x.1 = 0 → x.2 = -1) ∧ (0 < x.1 → x.2 = tm (lo + (x.1 - 1))) })
    (fun x => ⟨live 39 [(0, .sl 0 5 (.ix (.sh lo) 5 0) (.sh n) none), (2, .bool (.bl false)), (3, .int .i64 (.sh x.1.2)), (6, .sl 0 5 (.ix (.sh lo) 5 0) (.sh n) none), (7, .int .i64 (.sh n)), (8, .int .i64 (.sh x.1.1))], [(0, false, .row 31 5 (.sh N) (rowL tm core kind fk flat))], 1, []⟩)
    (fun x => (n - x.1.1).toNat) ⟨(0, -1), Int.le_refl _, h0, fun j h2 h3 => by simp only at h3; omega, fun _ => rfl, fun h => by simp only at h; omega⟩ [] ?_ (fun h hh => by cases hh) (fun _ => rfl) fun x => ?_)
  · constructor
    · cbv; repeat' apply And.intro
      all_goals first | exact trivial | exact ⟨rfl⟩ | exact noCap | exact hlo
    · cbv; exact ⟨⟨fun h => h, ⟨rfl⟩, fun e e' j h _ _ hj => rowL_le e e' j h hj⟩, trivial⟩
    · cbv
    · cbv
    · cbv
  · refine Snd.of_run (X := Xmay) m1 (by decide +kernel) (by decide +kernel) 3000 (by decide +kernel) fun O hO => ?_
    obtain ⟨⟨i, last⟩, hi0, hi, hno, hl0, hl1⟩ := x
    simp only at hi0 hi hno hl0 hl1
    have hl2 : -1 ≤ last := by
      rcases Int.lt_or_eq_of_le hi0 with h | h
      · have : 0 ≤ tm (lo + (i - 1)) := (hno (i - 1) (by omega) (by omega)).1
        rw [hl1 h]
        omega
      · rw [hl0 h.symm]; omega
    cbv
    repeat' (first | refine Br.mk (fun _ => ?_) (fun _ => ?_) | refine Ast.mk ?_ ?_)
    all_goals simp only [t_lss, f_lss, t_leq, f_leq, t_gtr, f_gtr, t_eql, f_eql, E.i_sh, E.i_lit, E.i_f1, E.i_plus] at *
    all_goals try omega
    all_goals try (
      refine ⟨_, rfl, ?_⟩
      rw [mayB_false n _ _ _ hi0 (by omega) (fun hok => by obtain ⟨k1, k2, k3, k4, k5, k6⟩ : 0 ≤ tm (lo + i) ∧ (0 < i → tm (lo + (i - 1)) < tm (lo + i)) ∧ 1 ≤ core (lo + i) ∧ core (lo + i) ≤ 8 ∧ 0 ≤ kind (lo + i) ∧ kind (lo + i) ≤ 13 := hok; omega)]
      rfl)
    · refine ⟨⟨(i + 1, tm (lo + i)), ?_, ?_, fun j h2 h3 => ?_, ?_, ?_⟩, [], ⟨?_, ?_, ?_, ?_, ?_⟩, ?_⟩
      · simp only; omega
      · simp only; omega
      · simp only at h3
        rcases Int.lt_or_eq_of_le (Int.le_of_lt_add_one h3) with h4 | h4
        · exact hno j h2 h4
        · subst h4
          show 0 ≤ tm (lo + j) ∧ (0 < j → tm (lo + (j - 1)) < tm (lo + j)) ∧ 1 ≤ core (lo + j) ∧ core (lo + j) ≤ 8 ∧ 0 ≤ kind (lo + j) ∧ kind (lo + j) ≤ 13
          exact ⟨by omega, by omega, by omega, by omega, by omega, by omega⟩
      · simp only; omega
      · simp only
        intro _
        congr 2
        omega
      · cbv; repeat' apply And.intro
        all_goals first | exact trivial | exact ⟨rfl⟩ | exact noCap | exact hlo | exact ⟨wrap64 (x := i + 1) (by omega) (by omega)⟩
      · cbv; exact ⟨⟨fun h => h, ⟨rfl⟩, fun e e' j h _ _ hj => rowL_le e e' j h hj⟩, trivial⟩
      · cbv
      · cbv
      · cbv
      · simp only; omega
    · refine ⟨_, rfl, ?_⟩
      rw [mayB_true n _ _ _ fun j h2 h3 => hno j h2 (by omega)]
      rfl

theorem spec_refmay (h0 : 0 ≤ n) (h1 : n ≤ 140737488355328) : Spec PP 10 [.sl 0 5 (.c 0) (.sh n) none] [(0, false, .row 31 5 (.sh n) (rowL tm core kind fk flat))] 1 (fun out => out = .val (.bool (.bl (mayB n tm core kind)))) := by
  intro C
  refine CallOb.of_run (X := Xmay) m1 (by decide +kernel) (by decide +kernel) 3000 fun O hO => ?_
  cbv
  refine hO.lo (loop_rule (ι := { x : Int // 0 ≤ x ∧ x ≤ n ∧ (∀ j : Int, 0 ≤ j → j < x → okAt tm core kind j) })
    (fun x => ⟨live 53 [(0, .sl 0 5 (.c 0) (.sh n) none), (2, .bool (.bl false)), (3, .int .i64 (.sh x.1))], [(0, false, .row 31 5 (.sh n) (rowL tm core kind fk flat))], 1, []⟩)
    (fun x => (n - x.1).toNat) ⟨0, Int.le_refl _, h0, fun j h2 h3 => by omega⟩ [] ?_ (fun h hh => by cases hh) (fun _ => rfl) fun x => ?_)
  · constructor
    · cbv; repeat' apply And.intro
      all_goals first | exact trivial | exact ⟨rfl⟩ | exact noCap
    · cbv; exact ⟨⟨fun h => h, ⟨rfl⟩, fun e e' j h _ _ hj => rowL_le e e' j h hj⟩, trivial⟩
    · cbv
    · cbv
    · cbv
  · refine Snd.of_run (X := Xmay) m1 (by decide +kernel) (by decide +kernel) 3000 (by decide +kernel) fun O hO => ?_
    obtain ⟨i, hi0, hi, hno⟩ := x
    have w1 : IntKind.i64.wrap (i - 1) = i - 1 := wrap64 (by omega) (by omega)
    cbv
    repeat' (first | refine Br.mk (fun _ => ?_) (fun _ => ?_) | refine Ast.mk ?_ ?_)
    all_goals simp only [t_lss, f_lss, t_leq, f_leq, t_gtr, f_gtr, E.i_sh, E.i_lit, E.i_f1, i_sub] at *
    all_goals try simp only [w1] at *
    all_goals try omega
    all_goals try (
      refine ⟨_, rfl, ?_⟩
      rw [mayB_false n tm core kind hi0 (by omega) (fun hok => by obtain ⟨k1, k2, k3, k4, k5, k6⟩ := hok; omega)]
      rfl)
    all_goals try (
      refine ⟨_, rfl, ?_⟩
      rw [mayB_true n tm core kind fun j h2 h3 => hno j h2 (by omega)]
      rfl)
    all_goals
      refine ⟨⟨i + 1, by omega, by omega, fun j h2 h3 => ?_⟩, [], ⟨?_, ?_, ?_, ?_, ?_⟩, ?_⟩
      · rcases Int.lt_or_eq_of_le (Int.le_of_lt_add_one h3) with h4 | h4
        · exact hno j h2 h4
        · subst h4
          exact ⟨by omega, by omega, by omega, by omega, by omega, by omega⟩
      · cbv; repeat' apply And.intro
        all_goals first | exact trivial | exact ⟨rfl⟩ | exact noCap | exact ⟨wrap64 (x := i + 1) (by omega) (by omega)⟩
      · cbv; exact ⟨⟨fun h => h, ⟨rfl⟩, fun e e' j h _ _ hj => rowL_le e e' j h hj⟩, trivial⟩
      · cbv
      · cbv
      · cbv
      · simp only; omega
end
end Go.Sx
