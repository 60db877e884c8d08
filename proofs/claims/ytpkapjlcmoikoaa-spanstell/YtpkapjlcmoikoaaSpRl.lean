import Derived.Test.YtpkapjlcmoikoaaSpRs
set_option linter.all false
/-
  The reference's All.
-/
namespace Go.Sx
open Go
def Xf18 : Cfg := ⟨[18], [10, 35], false⟩
set_option maxRecDepth 100000
set_option maxHeartbeats 4000000
set_option linter.all false
section
variable (tm core kind : Int → Int)
def refUpA (want : Int → Bool) (n : Nat) (i : Int) : List Sp := (List.range i.toNat).flatMap (refA tm core kind want n)
theorem refUpA_succ (want : Int → Bool) (n : Nat) {i : Int} (h0 : 0 ≤ i) : refUpA tm core kind want n (i + 1) = refUpA tm core kind want n i ++ (if want (core i) = true then refTo tm core kind (core i) n i.toNat 3 else []) := by
  unfold refUpA
  rw [show (i + 1).toNat = i.toNat + 1 by omega, List.range_succ, List.flatMap_append, List.flatMap_cons, List.flatMap_nil, List.append_nil]
  unfold refA
  rw [show ((i.toNat : Nat) : Int) = i by omega]
  rfl
theorem refUpA_len (want : Int → Bool) (n : Nat) (i : Int) : (refUpA tm core kind want n i).length ≤ 3 * i.toNat := by
  unfold refUpA
  generalize i.toNat = m
  induction m with
  | zero => simp
  | succ m ih =>
    rw [List.range_succ, List.flatMap_append, List.flatMap_cons, List.flatMap_nil, List.append_nil, List.length_append]
    have := refTo_len tm core kind (core m) n m 3
    have e : refTo tm core kind (core m) n m 3 = refL tm core kind (core m) n m := rfl
    rw [e] at this
    unfold refA at ih ⊢
    split
    · omega
    · simp only [List.length_nil]
      omega
end
theorem take_mem_succ {xs : List Int} {k : Int} (h0 : 0 ≤ k) (h1 : k < xs.length) (c : Int) : decide (c ∈ xs.take (k + 1).toNat) = (decide (c ∈ xs.take k.toNat) || decide (listI xs k = c)) := by
  have hk : k.toNat < xs.length := by omega
  rw [show (k + 1).toNat = k.toNat + 1 by omega, List.take_succ, Bool.eq_iff_iff]
  unfold listI
  simp only [List.getD, List.getElem?_eq_getElem hk, Option.toList_some, Option.getD_some, List.mem_append, List.mem_singleton, Bool.or_eq_true, decide_eq_true_eq]
  constructor
  · rintro (h | h)
    · exact .inl h
    · exact .inr h.symm
  · rintro (h | h)
    · exact .inl h
    · exact .inr h.symm
section
variable (n : Int) (tm core kind fk flat : Int → Int) (xs : List Int)
theorem spec_refall (h0 : 0 ≤ n) (hN : n ≤ 300) (hmay : mayB n tm core kind = true) (hx : xs.length ≤ 50) : ∀ m : Int, m = xs.length → Spec PP 18 [.sl 0 5 (.c 0) (.sh n) none, .sl 1 1 (.c 0) (.sh m) none] [(1, false, .row 3 1 (.sh m) (intRow (listI xs))), (0, false, .row 31 5 (.sh n) (rowL tm core kind fk flat))] 2
    (fun out => ∃ len M, M = allSp tm core kind (fun c => decide (c ∈ xs)) n.toNat ∧ len = (M.length : Int) ∧ out = .row (fun h => .tup [.sl h 5 (.c 0) (.sh len) none, .int .i64 (.lit 0)]) 33 5 (.sh len) (spF M)) := by
  intro m hm C
  have hm0 : 0 ≤ m := by omega
  have hm1 : m ≤ 50 := by omega
  have hok := (mayB_iff n _ _ _).1 hmay
  obtain ⟨want, hwant⟩ : ∃ w : Int → Bool, w = fun c => decide (c ∈ xs) := ⟨_, rfl⟩
  rw [← hwant]
  refine CallOb.of_run (X := Xf18) m1 (by decide +kernel) (by decide +kernel) 3000 fun O hO => ?_
  cbv
  refine hO.co (Spec.call (spec_refmay n tm core kind fk flat h0 (by omega)) [.of 0] rfl rfl ?_ ?_ (fun out ho => ?_) (fun out ho => ?_))
  · cbv; repeat' apply And.intro
    all_goals first | exact trivial | exact ⟨rfl⟩ | exact noCap
  · cbv; exact ⟨⟨fun h => h, ⟨rfl⟩, fun e e' j h _ _ hj => rowL_le e e' j h hj⟩, trivial⟩
  · subst ho; exact plain_of rfl
  subst ho
  rw [hmay]
  cbv
  refine hO.lo (loop_rule' (ι := { y : Int × Int × List Sp // 0 ≤ y.1 ∧ y.1 ≤ n ∧ y.2.2 = refUpA tm core kind want n.toNat y.1 ∧ y.2.1 = y.2.2.length })
    (fun st y => ⟨liveK st.tmps [0, 1, 4, 5] [(6, .sl 2 5 (.c 0) (.sh y.1.2.1) none), (7, .int .i64 (.sh y.1.1))],
      (2, true, .row 33 5 (.sh y.1.2.1) (spF y.1.2.2)) :: (1, false, .row 3 1 (.sh m) (intRow (listI xs))) :: (0, false, .row 31 5 (.sh n) (rowL tm core kind fk flat)) :: [], 3, []⟩)
    (fun y => (n - y.1.1).toNat) ⟨(0, 0, []), by simp, by simpa using h0, by simp [refUpA], by simp⟩ [.nil] ?_ (fun h hh => by cases hh) (fun _ => rfl) fun y => ?_)
  · constructor
    · cbv; repeat' apply And.intro
      all_goals first | exact trivial | exact ⟨rfl⟩ | exact noCap
    · cbv; repeat' apply And.intro
      all_goals first | exact trivial | exact fun h => h | exact ⟨rfl⟩ | rfl | exact fun e e' j h _ _ hj => rowL_le e e' j h hj | exact fun e e' j h _ _ hj => intRow_le e e' j h hj
    · cbv
    · cbv
    · cbv
  · obtain ⟨⟨i, len, L⟩, hi0, hi, hL, hlen⟩ := y
    simp only at hi0 hi hL hlen
    have hlen1 : 0 ≤ len ∧ len ≤ 900 := by
      have := refUpA_len tm core kind want n.toNat i
      rw [← hL] at this
      omega
    refine Snd.of_run (X := Xf18) m1 (by decide +kernel) (by decide +kernel) 3000 (by decide +kernel) fun O1 hO1 => ?_
    cbv
    refine Br.mk (fun hlt => ?_) (fun hge => ?_)
    · rw [t_lss] at hlt
      simp only [E.i_sh] at hlt
      refine hO1.lo (loop_rule' (ι := { y : Int × Bool // 0 ≤ y.1 ∧ y.1 ≤ m ∧ y.2 = decide (core i ∈ xs.take y.1.toNat) })
        (fun st y => ⟨liveK st.tmps [0, 1, 4, 5, 6, 7] [(8, .bool (.bs y.1.2)), (9, .int .i64 (.sh y.1.1))], st.heap, 3, []⟩)
        (fun y => (m - y.1.1).toNat) ⟨(0, false), by simp, by simpa using hm0, by simp⟩ [] ?_ (fun h hh => by cases hh) (fun _ => rfl) fun y => ?_)
      · constructor
        · cbv; repeat' apply And.intro
          all_goals first | exact trivial | exact ⟨rfl⟩ | exact noCap
        · cbv; repeat' apply And.intro
          all_goals first | exact trivial | exact fun h => h | exact ⟨rfl⟩ | rfl | exact fun e e' j h _ _ hj => rowL_le e e' j h hj | exact fun e e' j h _ _ hj => spF_le e e' j h hj | exact fun e e' j h _ _ hj => intRow_le e e' j h hj
        · cbv
        · cbv
        · cbv
      · obtain ⟨⟨k, w⟩, hk0, hkm, hw⟩ := y
        simp only at hk0 hkm hw
        refine Snd.of_run (X := Xf18) m1 (by decide +kernel) (by decide +kernel) 3000 (by decide +kernel) fun O2 hO2 => ?_
        cbv
        refine Br.mk (fun hlt2 => ?_) (fun hge2 => ?_)
        · rw [t_lss] at hlt2
          simp only [E.i_sh] at hlt2
          have hm : m = (xs.length : Int) := hm
          have hsucc := take_mem_succ (xs := xs) hk0 (by rw [← hm]; exact hlt2) (core i)
          rw [← hw] at hsucc
          refine Br.mk (fun hwt => ?_) (fun hwf => ?_)
          · rw [show w = true from hwt, Bool.true_or] at hsucc
            refine ⟨⟨(k + 1, true), by simp only; omega, by simp only; omega, hsucc.symm⟩, [], ⟨?_, ?_, ?_, ?_, ?_⟩, ?_⟩
            · cbv; repeat' apply And.intro
              all_goals first | exact trivial | exact ⟨rfl⟩ | exact noCap | exact ⟨wrap64 (x := k + 1) (by omega) (by omega)⟩
            · cbv; repeat' apply And.intro
              all_goals first | exact trivial | exact fun h => h | exact ⟨rfl⟩ | rfl | exact fun e e' j h _ _ hj => rowL_le e e' j h hj | exact fun e e' j h _ _ hj => spF_le e e' j h hj | exact fun e e' j h _ _ hj => intRow_le e e' j h hj
            · cbv
            · cbv
            · cbv
            · simp only; omega
          · rw [show w = false from hwf, Bool.false_or] at hsucc
            obtain ⟨w2, hw2⟩ : ∃ z : Bool, z = decide (listI xs k = core i) := ⟨_, rfl⟩
            rw [← hw2] at hsucc
            have hw3 : (E.cmp BinOp.eql (E.f1 (listI xs) (E.sh k)) (E.f1 core (E.sh i))).b = w2 := by
              rw [Bool.eq_iff_iff, t_eql, hw2, decide_eq_true_eq]
              exact Iff.rfl
            refine Ast.mk (by rw [t_leq]; exact hk0) (Ast.mk (by rw [t_lss]; exact hlt2) (Ast.mk (by rw [t_lss]; exact hlt2) ?_))
            refine Ast.mk (by rw [t_leq]; exact hi0) (Ast.mk (by rw [t_lss]; exact hlt) (Ast.mk (by rw [t_lss]; exact hlt) ?_))
            refine ⟨⟨(k + 1, w2), by simp only; omega, by simp only; omega, hsucc.symm⟩, [], ⟨?_, ?_, ?_, ?_, ?_⟩, ?_⟩
            · cbv; repeat' apply And.intro
              all_goals first | exact trivial | exact ⟨rfl⟩ | exact noCap | exact ⟨wrap64 (x := k + 1) (by omega) (by omega)⟩ | exact ⟨hw3⟩
            · cbv; repeat' apply And.intro
              all_goals first | exact trivial | exact fun h => h | exact ⟨rfl⟩ | rfl | exact fun e e' j h _ _ hj => rowL_le e e' j h hj | exact fun e e' j h _ _ hj => spF_le e e' j h hj | exact fun e e' j h _ _ hj => intRow_le e e' j h hj
            · cbv
            · cbv
            · cbv
            · simp only; omega
        · rw [f_lss] at hge2
          simp only [E.i_sh] at hge2
          have hm : m = (xs.length : Int) := hm
          have hww : w = want (core i) := by rw [hwant, hw, List.take_of_length_le (by omega)]
          refine hO1.lo (loop_rule' (ι := { y : Int × Int × List Sp // 0 ≤ y.1 ∧ y.1 ≤ 3 ∧ y.2.2 = L ++ (if w = true then refTo tm core kind (core i) n.toNat i.toNat y.1 else []) ∧ y.2.1 = y.2.2.length })
            (fun st y => ⟨liveK st.tmps [0, 1, 4, 5, 7, 8] [(6, .sl 3 5 (.c 0) (.sh y.1.2.1) none), (10, .int .i8 (.sh y.1.1))],
              (3, true, .row 33 5 (.sh y.1.2.1) (spF y.1.2.2)) :: (1, false, .row 3 1 (.sh m) (intRow (listI xs))) :: (0, false, .row 31 5 (.sh n) (rowL tm core kind fk flat)) :: [], 4, []⟩)
            (fun y => (3 - y.1.1).toNat) ⟨(0, len, L), by simp, by simp, by simp [refTo], hlen⟩ [.of 2] ?_ (fun h hh => by cases hh) (fun _ => rfl) fun y => ?_)
          · constructor
            · cbv; repeat' apply And.intro
              all_goals first | exact trivial | exact ⟨rfl⟩ | exact noCap
            · cbv; repeat' apply And.intro
              all_goals first | exact trivial | exact fun h => h | exact ⟨rfl⟩ | rfl | exact fun e e' j h _ _ hj => rowL_le e e' j h hj | exact fun e e' j h _ _ hj => spF_le e e' j h hj | exact fun e e' j h _ _ hj => intRow_le e e' j h hj
            · cbv
            · cbv
            · cbv
          · obtain ⟨⟨q, ln, S⟩, hq0, hq3, hS, hln⟩ := y
            simp only at hq0 hq3 hS hln
            have hln1 : 0 ≤ ln ∧ ln ≤ 903 := by
              have := refTo_len tm core kind (core i) n.toNat i.toNat q
              have e : (S.length : Int) = (L.length : Int) + ((if w = true then refTo tm core kind (core i) n.toNat i.toNat q else []).length : Int) := by rw [hS, List.length_append]; rfl
              have hlen : len = (L.length : Int) := hlen
              split at e
              · omega
              · simp only [List.length_nil] at e
                omega
            refine Snd.of_run (X := Xf18) m1 (by decide +kernel) (by decide +kernel) 3000 (by decide +kernel) fun O3 hO3 => ?_
            cbv
            refine Br.mk (fun hle => ?_) (fun hgt => ?_)
            · rw [t_leq] at hle
              simp only [E.i_sh, E.i_lit] at hle
              have hq : q = 0 ∨ q = 1 ∨ q = 2 := by omega
              refine Br.mk (fun hwt => ?_) (fun hwf => ?_)
              · have hwt : w = true := hwt
                rw [if_pos hwt] at hS
                refine Ast.mk (by rw [t_leq]; exact hi0) (Ast.mk (by rw [t_lss]; exact hlt) (Ast.mk (by rw [t_lss]; exact hlt) ?_))
                refine hO3.co (Spec.call (spec_from' n tm core kind fk flat (core i) q i hq hN hi0 hlt hok) [.of 0] rfl rfl ?_ ?_ (fun out ho => ?_) (fun out ho => ?_))
                · cbv; repeat' apply And.intro
                  all_goals first | exact trivial | exact ⟨rfl⟩ | exact noCap
                · cbv; exact ⟨⟨fun h => h, ⟨rfl⟩, fun e e' j h _ _ hj => rowL_le e e' j h hj⟩, trivial⟩
                · rcases ho with ⟨_, rfl⟩ | ⟨s, _, _, rfl⟩ <;> exact plain_of rfl
                rcases ho with ⟨hop, rfl⟩ | ⟨s, hop, hs, rfl⟩
                · cbv
                  refine ⟨⟨(q + 1, ln, S), by simp only; omega, by simp only; omega, by simp only; rw [if_pos hwt, refTo_no tm core kind (core i) n.toNat i.toNat hq hop]; exact hS, hln⟩, [.of 3], ⟨?_, ?_, ?_, ?_, ?_⟩, ?_⟩
                  · cbv; repeat' apply And.intro
                    all_goals first | exact trivial | exact ⟨rfl⟩ | exact noCap | exact ⟨wrap8 (x := q + 1) (by omega) (by omega)⟩
                  · cbv; repeat' apply And.intro
                    all_goals first | exact trivial | exact fun h => h | exact ⟨rfl⟩ | rfl | exact fun e e' j h _ _ hj => rowL_le e e' j h hj | exact fun e e' j h _ _ hj => spF_le e e' j h hj | exact fun e e' j h _ _ hj => intRow_le e e' j h hj
                  · cbv
                  · cbv
                  · cbv
                  · simp only; omega
                · cbv
                  refine Ast.mk (by rw [t_leq]; exact Int.le_refl _) (Ast.mk (by rw [t_leq]; simp only [E.i_plus, E.i_sh, E.i_lit, Int.ofNat_eq_natCast]; omega) ?_)
                  obtain ⟨S2, hS2⟩ : ∃ z, z = S ++ [s] := ⟨_, rfl⟩
                  obtain ⟨l2, hl2⟩ : ∃ z : Int, z = ln + 1 := ⟨_, rfl⟩
                  have hS3 : S2 = L ++ refTo tm core kind (core i) n.toNat i.toNat (q + 1) := by
                    rw [refTo_yes tm core kind (core i) n.toNat i.toNat hq hop, hS2, hS, List.append_assoc, hs, show (n - 1 - i).toNat = n.toNat - 1 - i.toNat by omega]
                  have hl3 : l2 = (S2.length : Int) := by rw [hS2, hl2, hln]; simp
                  refine ⟨⟨(q + 1, l2, S2), by simp only; omega, by simp only; omega, by simp only; rw [if_pos hwt]; exact hS3, hl3⟩, [.of 6], ⟨?_, ?_, ?_, ?_, ?_⟩, ?_⟩
                  · cbv; repeat' apply And.intro
                    all_goals first | exact trivial | exact ⟨rfl⟩ | exact noCap | exact ⟨wrap8 (x := q + 1) (by omega) (by omega)⟩ | exact ⟨hl2.symm⟩
                  · cbv; repeat' apply And.intro
                    all_goals first | exact trivial | exact fun h => h | exact ⟨rfl⟩ | rfl | exact fun e e' j h _ _ hj => rowL_le e e' j h hj | exact fun e e' j h _ _ hj => spF_le e e' j h hj | exact fun e e' j h _ _ hj => intRow_le e e' j h hj | exact ⟨hl2.symm⟩ | (rw [hS2]; exact snoc_le (z := .lit (Int.ofNat 0)) (n := .sh ln) (n' := .plus (.sh ln) (.lit (Int.ofNat 1))) rfl hln (congrArg (· + 1) hln) rfl rfl rfl rfl rfl)
                  · cbv
                  · cbv
                  · cbv
                  · simp only; omega
              · have hwf : w = false := hwf
                rw [if_neg (by rw [hwf]; decide)] at hS
                refine ⟨⟨(i + 1, ln, S), by simp only; omega, by simp only; omega, by simp only; rw [refUpA_succ tm core kind want n.toNat hi0, ← hL, ← hww]; rw [if_neg (by rw [hwf]; decide)]; exact hS, hln⟩, [.of 3], ⟨?_, ?_, ?_, ?_, ?_⟩, ?_⟩
                · cbv; repeat' apply And.intro
                  all_goals first | exact trivial | exact ⟨rfl⟩ | exact noCap | exact ⟨wrap64 (x := i + 1) (by omega) (by omega)⟩
                · cbv; repeat' apply And.intro
                  all_goals first | exact trivial | exact fun h => h | exact ⟨rfl⟩ | rfl | exact fun e e' j h _ _ hj => rowL_le e e' j h hj | exact fun e e' j h _ _ hj => spF_le e e' j h hj | exact fun e e' j h _ _ hj => intRow_le e e' j h hj
                · cbv
                · cbv
                · cbv
                · simp only; omega
            · rw [f_leq] at hgt
              simp only [E.i_sh, E.i_lit] at hgt
              have hq : q = 3 := by omega
              refine ⟨⟨(i + 1, ln, S), by simp only; omega, by simp only; omega, by simp only; rw [refUpA_succ tm core kind want n.toNat hi0, ← hL, ← hww]; rw [← hq]; exact hS, hln⟩, [.of 3], ⟨?_, ?_, ?_, ?_, ?_⟩, ?_⟩
              · cbv; repeat' apply And.intro
                all_goals first | exact trivial | exact ⟨rfl⟩ | exact noCap | exact ⟨wrap64 (x := i + 1) (by omega) (by omega)⟩
              · cbv; repeat' apply And.intro
                all_goals first | exact trivial | exact fun h => h | exact ⟨rfl⟩ | rfl | exact fun e e' j h _ _ hj => rowL_le e e' j h hj | exact fun e e' j h _ _ hj => spF_le e e' j h hj | exact fun e e' j h _ _ hj => intRow_le e e' j h hj
              · cbv
              · cbv
              · cbv
              · simp only; omega
    · rw [f_lss] at hge
      simp only [E.i_sh] at hge
      have hin : i = n := by omega
      have hlen : len = (L.length : Int) := hlen
      exact ⟨_, ⟨len, L, by rw [hL, hin, allSp_ref]; rfl, hlen, rfl⟩, 2, by decide, rfl, rfl⟩
end
end Go.Sx
