import Derived.Test.YtpkapjlcmoikoaaSpBd
set_option linter.all false
/-
  The reference's At.
-/
namespace Go.Sx
open Go
def Xf20 : Cfg := ⟨[20], [16], false⟩
def Xf20b : Cfg := ⟨[20], [16], true⟩
set_option maxRecDepth 100000
set_option maxHeartbeats 4000000
set_option linter.all false
/-- does a span stand at a time? -/
def atB (t : Int) (s : Sp) : Bool := decide (s.frm ≤ t) && (decide (s.to < 0) || decide (t ≤ s.to))
theorem filter_succ {M : List Sp} {i t : Int} (h0 : 0 ≤ i) (h1 : i < M.length) : (M.take (i + 1).toNat).filter (atB t) = (M.take i.toNat).filter (atB t) ++ (if atB t (M.getD i.toNat default) = true then [M.getD i.toNat default] else []) := by
  rw [take_succ_getD h0 h1, List.filter_append]
  congr 1
  simp only [List.filter_cons, List.filter_nil]
theorem spans_len3 (tm core kind : Int → Int) (c : Int) (n : Int) (hn : n ≤ 300) (M : List Sp) (h : M = spans tm core kind c n.toNat) : (M.length : Int) ≤ 900 := by
  have := refUp_len tm core kind c n.toNat n
  have e : refUp tm core kind c n.toNat n = M := by rw [h, spans_ref]; rfl
  rw [e] at this
  omega
section
variable (n c t : Int) (tm core kind fk flat : Int → Int)
theorem spec_refat_bad (h0 : 0 ≤ n) (hN : n ≤ 300) (hmay : mayB n tm core kind = false) : Spec PP 20 [.sl 0 5 (.c 0) (.sh n) none, .int .i64 (.sh c), .int .i64 (.sh t)] [(0, false, .row 31 5 (.sh n) (rowL tm core kind fk flat))] 1
    (fun out => out = .val (.tup [.lit (.slice none 0 0), .int .i64 (.lit 2)])) := by
  intro C
  refine CallOb.of_run (X := Xf20b) m1 (by decide +kernel) (by decide +kernel) 3000 fun O hO => ?_
  cbv
  refine hO.co (Spec.call (spec_refspans_bad n c tm core kind fk flat h0 hN hmay) [.of 0] rfl rfl ?_ ?_ (fun out ho => ?_) (fun out ho => ?_))
  · cbv; repeat' apply And.intro
    all_goals first | exact trivial | exact ⟨rfl⟩ | exact noCap
  · cbv; exact ⟨⟨fun h => h, ⟨rfl⟩, fun e e' j h _ _ hj => rowL_le e e' j h hj⟩, trivial⟩
  · subst ho; exact plain_of rfl
  subst ho
  cbv
  exact ⟨_, rfl, rfl⟩
theorem spec_refat (h0 : 0 ≤ n) (hN : n ≤ 300) (hmay : mayB n tm core kind = true) : Spec PP 20 [.sl 0 5 (.c 0) (.sh n) none, .int .i64 (.sh c), .int .i64 (.sh t)] [(0, false, .row 31 5 (.sh n) (rowL tm core kind fk flat))] 1
    (fun out => ∃ len M, M = (spans tm core kind c n.toNat).filter (atB t) ∧ len = (M.length : Int) ∧ out = .row (fun h => .tup [.sl h 5 (.c 0) (.sh len) none, .int .i64 (.lit 0)]) 33 5 (.sh len) (spF M)) := by
  intro C
  refine CallOb.of_run (X := Xf20) m1 (by decide +kernel) (by decide +kernel) 3000 fun O hO => ?_
  cbv
  refine hO.co (Spec.call (spec_refspans n tm core kind fk flat c h0 hN hmay) [.of 0] rfl rfl ?_ ?_ (fun out ho => ?_) (fun out ho => ?_))
  · cbv; repeat' apply And.intro
    all_goals first | exact trivial | exact ⟨rfl⟩ | exact noCap
  · cbv; exact ⟨⟨fun h => h, ⟨rfl⟩, fun e e' j h _ _ hj => rowL_le e e' j h hj⟩, trivial⟩
  · obtain ⟨len, M, _, _, rfl⟩ := ho; exact all_plain
  obtain ⟨len, M, hMl, hlen, rfl⟩ := ho
  have hM9 := spans_len3 tm core kind c n hN M hMl
  rw [← hMl]
  have hlen0 : 0 ≤ len := by omega
  have hlen9 : len ≤ 900 := by omega
  have hltM : ∀ i : Int, 0 ≤ i → i < len → i < M.length := fun i _ _ => by omega
  have hall : ∀ i : Int, i = len → M.take i.toNat = M := fun i h => List.take_of_length_le (by omega)
  clear hlen
  cbv
  refine hO.lo (loop_rule' (ι := { y : Int × Int × List Sp // 0 ≤ y.1 ∧ y.1 ≤ len ∧ y.2.2 = (M.take y.1.toNat).filter (atB t) ∧ y.2.1 = y.2.2.length })
    (fun st y => ⟨liveK st.tmps [0, 1, 2, 6, 7, 8, 9] [(10, .sl 2 5 (.c 0) (.sh y.1.2.1) none), (11, .int .i64 (.sh y.1.1))],
      [(2, true, .row 33 5 (.sh y.1.2.1) (spF y.1.2.2)), (1, true, .row 33 5 (.sh len) (spF M)), (0, false, .row 31 5 (.sh n) (rowL tm core kind fk flat))], 3, []⟩)
    (fun y => (len - y.1.1).toNat) ⟨(0, 0, []), by simp, by simpa using hlen0, by simp, by simp⟩ [.nil] ?_ (fun h hh => by cases hh) (fun _ => rfl) fun y => ?_)
  · constructor
    · cbv; repeat' apply And.intro
      all_goals first | exact trivial | exact ⟨rfl⟩ | exact noCap
    · cbv; repeat' apply And.intro
      all_goals first | exact trivial | exact fun h => h | exact ⟨rfl⟩ | exact noCap | rfl | exact fun e e' j h _ _ hj => rowL_le e e' j h hj | exact fun e e' j h _ _ hj => spF_le e e' j h hj
    · cbv
    · cbv
    · cbv
  · obtain ⟨⟨i, ln, S⟩, hi0, hi, hS, hln⟩ := y
    simp only at hi0 hi hS hln
    have hlni : ln ≤ i := by
      have h1 := List.length_filter_le (atB t) (M.take i.toNat)
      have h2 := List.length_take_le i.toNat M
      rw [← hS] at h1
      omega
    have hln0 : 0 ≤ ln := by omega
    have hstep := fun h => filter_succ (M := M) (t := t) hi0 (hltM i hi0 h)
    refine (?_ : ∀ s, s = M.getD i.toNat default → _) _ rfl
    intro s hsd
    rw [← hsd, ← hS] at hstep
    have g1 : (M.getD i.toNat default).core = s.core := by rw [hsd]
    have g2 : (M.getD i.toNat default).kind = s.kind := by rw [hsd]
    have g3 : (M.getD i.toNat default).frm = s.frm := by rw [hsd]
    have g4 : (M.getD i.toNat default).to = s.to := by rw [hsd]
    have g5 : (M.getD i.toNat default).n = s.n := by rw [hsd]
    refine Snd.of_run (X := Xf20) m1 (by decide +kernel) (by decide +kernel) 3000 (by decide +kernel) fun O1 hO1 => ?_
    cbv
    refine Br.mk (fun hlt => ?_) (fun hge => ?_)
    · rw [t_lss] at hlt
      simp only [E.i_sh] at hlt
      have hstep := hstep hlt
      refine Ast.mk (by rw [t_leq]; exact hi0) (Ast.mk (by rw [t_lss]; exact hlt) (Ast.mk (by rw [t_lss]; exact hlt) ?_))
      refine Br.mk (fun hf => ?_) (fun hf => ?_)
      · rw [t_leq] at hf
        have hf : s.frm ≤ t := by rw [← g3]; exact hf
        refine Ast.mk (by rw [t_leq]; exact hi0) (Ast.mk (by rw [t_lss]; exact hlt) (Ast.mk (by rw [t_lss]; exact hlt) ?_))
        refine Br.mk (fun ht => ?_) (fun ht => ?_)
        · rw [t_lss] at ht
          have ht : s.to < 0 := by rw [← g4]; exact ht
          refine Ast.mk (by rw [t_leq]; exact hi0) (Ast.mk (by rw [t_lss]; exact hlt) (Ast.mk (by rw [t_lss]; exact hlt) ?_))
          refine Ast.mk (by rw [t_leq]; exact Int.le_refl _) (Ast.mk (by rw [t_leq]; simp only [E.i_plus, E.i_sh, E.i_lit, Int.ofNat_eq_natCast]; omega) ?_)
          rw [if_pos (by simp [atB, hf, ht])] at hstep
          obtain ⟨S2, hS2⟩ : ∃ z, z = S ++ [s] := ⟨_, rfl⟩
          obtain ⟨l2, hl2⟩ : ∃ z : Int, z = ln + 1 := ⟨_, rfl⟩
          have hl3 : l2 = (S2.length : Int) := by rw [hS2, hl2, hln]; simp
          refine ⟨⟨(i + 1, l2, S2), by simp only; omega, by simp only; omega, hS2.trans hstep.symm, hl3⟩, [.of 4], ⟨?_, ?_, ?_, ?_, ?_⟩, ?_⟩
          · cbv; repeat' apply And.intro
            all_goals first | exact trivial | exact ⟨rfl⟩ | exact noCap | exact ⟨hl2.symm⟩ | exact ⟨wrap64 (x := i + 1) (by omega) (by omega)⟩
          · cbv; repeat' apply And.intro
            all_goals first | exact trivial | exact fun h => h | exact ⟨rfl⟩ | exact noCap | rfl | exact fun e e' j h _ _ hj => rowL_le e e' j h hj | exact fun e e' j h _ _ hj => spF_le e e' j h hj | exact ⟨hl2.symm⟩ | (rw [hS2]; exact snoc_le (z := .lit (Int.ofNat 0)) (n := .sh ln) (n' := .plus (.sh ln) (.lit (Int.ofNat 1))) rfl hln (congrArg (· + 1) hln) g1 g2 g3 g4 g5)
          · cbv
          · cbv
          · cbv
          · simp only; omega
        · rw [f_lss] at ht
          have ht : 0 ≤ s.to := by rw [← g4]; exact ht
          refine Ast.mk (by rw [t_leq]; exact hi0) (Ast.mk (by rw [t_lss]; exact hlt) (Ast.mk (by rw [t_lss]; exact hlt) ?_))
          refine Br.mk (fun ha => ?_) (fun ha => ?_)
          · rw [t_geq] at ha
            have ha : t ≤ s.to := by rw [← g4]; exact ha
            refine Ast.mk (by rw [t_leq]; exact hi0) (Ast.mk (by rw [t_lss]; exact hlt) (Ast.mk (by rw [t_lss]; exact hlt) ?_))
            refine Ast.mk (by rw [t_leq]; exact Int.le_refl _) (Ast.mk (by rw [t_leq]; simp only [E.i_plus, E.i_sh, E.i_lit, Int.ofNat_eq_natCast]; omega) ?_)
            rw [if_pos (by simp [atB, hf, ha])] at hstep
            obtain ⟨S2, hS2⟩ : ∃ z, z = S ++ [s] := ⟨_, rfl⟩
            obtain ⟨l2, hl2⟩ : ∃ z : Int, z = ln + 1 := ⟨_, rfl⟩
            have hl3 : l2 = (S2.length : Int) := by rw [hS2, hl2, hln]; simp
            refine ⟨⟨(i + 1, l2, S2), by simp only; omega, by simp only; omega, hS2.trans hstep.symm, hl3⟩, [.of 4], ⟨?_, ?_, ?_, ?_, ?_⟩, ?_⟩
            · cbv; repeat' apply And.intro
              all_goals first | exact trivial | exact ⟨rfl⟩ | exact noCap | exact ⟨hl2.symm⟩ | exact ⟨wrap64 (x := i + 1) (by omega) (by omega)⟩
            · cbv; repeat' apply And.intro
              all_goals first | exact trivial | exact fun h => h | exact ⟨rfl⟩ | exact noCap | rfl | exact fun e e' j h _ _ hj => rowL_le e e' j h hj | exact fun e e' j h _ _ hj => spF_le e e' j h hj | exact ⟨hl2.symm⟩ | (rw [hS2]; exact snoc_le (z := .lit (Int.ofNat 0)) (n := .sh ln) (n' := .plus (.sh ln) (.lit (Int.ofNat 1))) rfl hln (congrArg (· + 1) hln) g1 g2 g3 g4 g5)
            · cbv
            · cbv
            · cbv
            · simp only; omega
          · rw [f_geq] at ha
            have ha : s.to < t := by rw [← g4]; exact ha
            rw [if_neg (by simp [atB]; omega), List.append_nil] at hstep
            refine ⟨⟨(i + 1, ln, S), by simp only; omega, by simp only; omega, hstep.symm, hln⟩, [.of 2], ⟨?_, ?_, ?_, ?_, ?_⟩, ?_⟩
            · cbv; repeat' apply And.intro
              all_goals first | exact trivial | exact ⟨rfl⟩ | exact noCap | exact ⟨wrap64 (x := i + 1) (by omega) (by omega)⟩
            · cbv; repeat' apply And.intro
              all_goals first | exact trivial | exact fun h => h | exact ⟨rfl⟩ | exact noCap | rfl | exact fun e e' j h _ _ hj => rowL_le e e' j h hj | exact fun e e' j h _ _ hj => spF_le e e' j h hj
            · cbv
            · cbv
            · cbv
            · simp only; omega
      · rw [f_leq] at hf
        have hf : t < s.frm := by rw [← g3]; exact hf
        rw [if_neg (by simp [atB]; omega), List.append_nil] at hstep
        refine ⟨⟨(i + 1, ln, S), by simp only; omega, by simp only; omega, hstep.symm, hln⟩, [.of 2], ⟨?_, ?_, ?_, ?_, ?_⟩, ?_⟩
        · cbv; repeat' apply And.intro
          all_goals first | exact trivial | exact ⟨rfl⟩ | exact noCap | exact ⟨wrap64 (x := i + 1) (by omega) (by omega)⟩
        · cbv; repeat' apply And.intro
          all_goals first | exact trivial | exact fun h => h | exact ⟨rfl⟩ | exact noCap | rfl | exact fun e e' j h _ _ hj => rowL_le e e' j h hj | exact fun e e' j h _ _ hj => spF_le e e' j h hj
        · cbv
        · cbv
        · cbv
        · simp only; omega
    · rw [f_lss] at hge
      simp only [E.i_sh] at hge
      exact ⟨_, ⟨ln, S, by rw [hS, hall i (by omega)], hln, rfl⟩, 2, by decide, rfl, rfl⟩
end
end Go.Sx
