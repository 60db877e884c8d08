import Derived.Test.YtpkapjlcmoikoaaSpK
set_option linter.all false
/-
  Same, SameLogs: of two that are the same.
-/
namespace Go.Sx
open Go
def Xf17 : Cfg := ⟨[17], [], false⟩
def Xf24 : Cfg := ⟨[24], [], false⟩
set_option maxRecDepth 100000
set_option maxHeartbeats 4000000
set_option linter.all false
theorem sp_self {A : List Sp} {i : E} : 
    ((E.cmp BinOp.eql (E.f1 (spAt A Sp.core) i) (E.f1 (spAt A Sp.core) i)).and ((E.cmp BinOp.eql (E.f1 (spAt A Sp.kind) i) (E.f1 (spAt A Sp.kind) i)).and ((E.cmp BinOp.eql (E.f1 (spAt A Sp.frm) i) (E.f1 (spAt A Sp.frm) i)).and ((E.cmp BinOp.eql (E.f1 (spAt A Sp.to) i) (E.f1 (spAt A Sp.to) i)).and ((E.cmp BinOp.eql (E.f1 (spAt A Sp.n) i) (E.f1 (spAt A Sp.n) i)).and (E.bl true)))))).b = true := by
  simp only [E.b_and, Bool.and_eq_true, t_eql, true_and]
  rfl
theorem log_self {a b c d e : Int → Int} {i : E} : 
    ((E.cmp BinOp.eql (E.f1 a i) (E.f1 a i)).and ((E.cmp BinOp.eql (E.f1 b i) (E.f1 b i)).and ((E.cmp BinOp.eql (E.f1 c i) (E.f1 c i)).and ((E.cmp BinOp.eql (E.f1 d i) (E.f1 d i)).and ((E.cmp BinOp.eql (E.f1 e i) (E.f1 e i)).and (E.bl true)))))).b = true := by
  simp only [E.b_and, Bool.and_eq_true, t_eql, true_and]
  rfl
section
variable (na nb : Int) (A : List Sp)
theorem spec_same (h0 : 0 ≤ na) (hb : nb = na) (hN : na ≤ 4611686018427387904) : Spec PP 17 [.sl 0 5 (.c 0) (.sh na) none, .sl 1 5 (.c 0) (.sh nb) none] [(1, false, .row 33 5 (.sh nb) (spF A)), (0, false, .row 33 5 (.sh na) (spF A))] 2 (fun out => out = .val (.bool (.bl true))) := by
  intro C
  refine CallOb.of_run (X := Xf17) m1 (by decide +kernel) (by decide +kernel) 3000 fun O hO => ?_
  cbv
  refine Br.mk (fun h => ?_) (fun _ => ?_)
  · rw [t_not, f_eql] at h
    exact absurd hb.symm h
  refine hO.lo (loop_rule' (ι := { a : Int // 0 ≤ a ∧ a ≤ na })
    (fun st a => ⟨liveK st.tmps [0, 1] [(5, .int .i64 (.sh a.1))],
      [(1, false, .row 33 5 (.sh nb) (spF A)), (0, false, .row 33 5 (.sh na) (spF A))], 2, []⟩)
    (fun a => (na - a.1).toNat) ⟨0, Int.le_refl _, h0⟩ [] ?_ (fun h hh => by cases hh) (fun _ => rfl) fun a => ?_)
  · constructor
    · cbv; repeat' apply And.intro
      all_goals first | exact trivial | exact ⟨rfl⟩ | exact noCap
    · exact ⟨⟨fun h => h, rfl, ⟨rfl⟩, fun e e' j h _ _ hj => spF_le e e' j h hj⟩, ⟨fun h => h, rfl, ⟨rfl⟩, fun e e' j h _ _ hj => spF_le e e' j h hj⟩, trivial⟩
    · cbv
    · cbv
    · cbv
  · refine Snd.of_runP (X := Xf17) (fun _ => none) (knOf [] [25]) m1 (by decide +kernel) (by decide +kernel) 3000 (by decide +kernel) fun O1 hO1 => ?_
    obtain ⟨a, ha0, ha⟩ := a
    cbv
    refine Br.mk (fun hlt => ?_) (fun hge => ?_)
    · rw [t_lss] at hlt
      simp only [E.i_sh] at hlt
      have hab : a < nb := by omega
      refine Ast.mk (by rw [t_leq]; exact ha0) (Ast.mk (by rw [t_lss]; exact hlt) (Ast.mk (by rw [t_lss]; exact hlt) ?_))
      refine Ast.mk (by rw [t_leq]; exact ha0) (Ast.mk (by rw [t_lss]; exact hab) (Ast.mk (by rw [t_lss]; exact hab) ?_))
      refine KnownAs.mk (by rw [f_not]; exact sp_self) ?_
      refine ⟨⟨a + 1, by omega, by omega⟩, [], ⟨?_, ?_, ?_, ?_, ?_⟩, ?_⟩
      · cbv; repeat' apply And.intro
        all_goals first | exact trivial | exact ⟨rfl⟩ | exact noCap | exact ⟨wrap64 (x := a + 1) (by omega) (by omega)⟩
      · exact ⟨⟨fun h => h, rfl, ⟨rfl⟩, fun e e' j h _ _ hj => spF_le e e' j h hj⟩, ⟨fun h => h, rfl, ⟨rfl⟩, fun e e' j h _ _ hj => spF_le e e' j h hj⟩, trivial⟩
      · cbv
      · cbv
      · cbv
      · simp only; omega
    · exact ⟨_, rfl, rfl⟩
variable (k N : Int) (tm core kind fk flat : Int → Int)
theorem spec_samelogs (h0 : 0 ≤ k) (h1 : k ≤ N) (hN : N ≤ 4611686018427387904) : Spec PP 24 [.sl 0 5 (.c 0) (.sh k) none, .sl 0 5 (.c 0) (.sh k) none] [(0, false, .row 31 5 (.sh N) (rowL tm core kind fk flat))] 1 (fun out => out = .val (.bool (.bl true))) := by
  intro C
  refine CallOb.of_run (X := Xf24) m1 (by decide +kernel) (by decide +kernel) 3000 fun O hO => ?_
  cbv
  refine Br.mk (fun h => ?_) (fun _ => ?_)
  · rw [t_not, f_eql] at h
    exact absurd rfl h
  refine hO.lo (loop_rule' (ι := { a : Int // 0 ≤ a ∧ a ≤ k })
    (fun st a => ⟨liveK st.tmps [0, 1] [(5, .int .i64 (.sh a.1))],
      [(0, false, .row 31 5 (.sh N) (rowL tm core kind fk flat))], 1, []⟩)
    (fun a => (k - a.1).toNat) ⟨0, Int.le_refl _, h0⟩ [] ?_ (fun h hh => by cases hh) (fun _ => rfl) fun a => ?_)
  · constructor
    · cbv; repeat' apply And.intro
      all_goals first | exact trivial | exact ⟨rfl⟩ | exact noCap
    · exact ⟨⟨fun h => h, rfl, ⟨rfl⟩, fun e e' j h _ _ hj => rowL_le e e' j h hj⟩, trivial⟩
    · cbv
    · cbv
    · cbv
  · refine Snd.of_runP (X := Xf24) (fun _ => none) (knOf [] [25]) m1 (by decide +kernel) (by decide +kernel) 3000 (by decide +kernel) fun O1 hO1 => ?_
    obtain ⟨a, ha0, ha⟩ := a
    cbv
    refine Br.mk (fun hlt => ?_) (fun hge => ?_)
    · rw [t_lss] at hlt
      simp only [E.i_sh] at hlt
      have hab : a < N := by omega
      refine Ast.mk (by rw [t_leq]; exact ha0) (Ast.mk (by rw [t_lss]; exact hlt) (Ast.mk (by rw [t_lss]; exact hab) ?_))
      refine Ast.mk (by rw [t_leq]; exact ha0) (Ast.mk (by rw [t_lss]; exact hlt) (Ast.mk (by rw [t_lss]; exact hab) ?_))
      refine KnownAs.mk (by rw [f_not]; exact log_self) ?_
      refine ⟨⟨a + 1, by omega, by omega⟩, [], ⟨?_, ?_, ?_, ?_, ?_⟩, ?_⟩
      · cbv; repeat' apply And.intro
        all_goals first | exact trivial | exact ⟨rfl⟩ | exact noCap | exact ⟨wrap64 (x := a + 1) (by omega) (by omega)⟩
      · exact ⟨⟨fun h => h, rfl, ⟨rfl⟩, fun e e' j h _ _ hj => rowL_le e e' j h hj⟩, trivial⟩
      · cbv
      · cbv
      · cbv
      · simp only; omega
    · exact ⟨_, rfl, rfl⟩
end
end Go.Sx
