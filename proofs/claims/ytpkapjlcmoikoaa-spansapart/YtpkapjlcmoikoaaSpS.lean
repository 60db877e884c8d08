import Derived.Test.YtpkapjlcmoikoaaSpT
import Derived.Test.YtpkapjlcmoikoaaSpQ
import Derived.Test.YtpkapjlcmoikoaaSpB
import Derived.Test.YtpkapjlcmoikoaaSpW
import Derived.Test.YtpkapjlcmoikoaaSpR
set_option linter.all false
namespace Go.Sx
open Go
def Xf3 : Cfg := ⟨[3, 9], [8, 10, 11, 12], false⟩
set_option maxRecDepth 100000
set_option maxHeartbeats 4000000
set_option linter.all false
theorem wrap8 {x : Int} (h1 : -128 ≤ x) (h2 : x < 128) : IntKind.i8.wrap x = x := by
  simp only [IntKind.wrap, IntKind.bits, IntKind.signed]
  simp
  omega
theorem there_true {n core t : Int} {tm fcore : Int → Int} (h : ∃ i : Int, 0 ≤ i ∧ i < n ∧ fcore i = core ∧ tm i = t) : thereB n core t tm fcore = true := @decide_eq_true _ (Classical.propDecidable _) h
/-- in which order the great test's operations are taken -/
def plan20 : Plan := .take 0 (.take 1 (.take 2 (.take 3 (.take 4 (.take 5 (.take 6 (.take 7 (.take 8 (.take 9 (.take 10 (.take 11 (.take 12 (.take 13 (.take 14 (.take 15 (.take 16 (.take 17 (.take 18 (.take 19 (.take 20 (.take 21 (.take 22 (.take 23 (.take 24 (.take 25 (.take 26 (.take 27 (.take 28 (.take 29 (.take 30 (.take 31 (.take 32 (.take 33 (.take 34 (.alt 35 (.take 36 (.take 37 (.take 38 (.take 39 (.take 40 (.take 41 (.take 42 (.take 43 (.take 44 (.take 45 (.take 46 (.take 47 (.take 48 (.take 49 (.take 50 (.take 51 (.take 52 (.alt 53 (.take 54 (.take 55 (.take 56 (.take 57 (.done))))) .stop)))))))))))))))))) .stop)))))))))))))))))))))))))))))))))))
def pl3 : Array Oper → Option Plan := fun ops => match Nat.beq ops.size 58 with
  | true => some plan20
  | false => none
def kn3 : Nat → Option Bool := fun t => match has [79, 85, 90, 96, 104, 114, 123] t with
  | true => some false
  | false => none
theorem walk_apart (x : Int) (_ : I64 x) : WalkL 3 [.int .i64 (.sh x)] := by
  intro C n tm core kind fk flat h0 hn hr
  refine (CallOb.of_run (X := Xf3) m1 (by decide +kernel) (by decide +kernel) 3000 fun O hO => ?_).h
  cbv
  refine Br.mk (fun _ => ?_) (fun hle => ?_)
  · refine hO.co (call_closed wakes_ok ?_)
    cbv
  · rw [f_gtr] at hle
    simp only [E.i_sh, E.i_lit] at hle
    cases hm : mayB n tm core kind with
    | false =>
      refine hO.co (Spec.call (spec_all_bad n n 1 tm core kind fk flat (listI [x]) h0 (Int.le_refl _) (by omega) hm) [.of 0, .of 1] rfl rfl ?_ ?_ (fun out ho => ?_) (fun out ho => ?_))
      · cbv; repeat' apply And.intro
        all_goals first | exact trivial | exact ⟨rfl⟩ | exact noCap
      · exact ⟨⟨(fun h => by cases h), one_row rfl⟩, ⟨fun h => h, rfl, ⟨rfl⟩, fun e e' j h _ _ hj => rowL_le e e' j h hj⟩, trivial⟩
      · subst ho; exact plain_of rfl
      · subst ho
        cbv
        refine hO.co (Spec.call (spec_refmay n tm core kind fk flat h0 (by omega)) [.of 0] rfl rfl ?_ ?_ (fun out ho => ?_) (fun out ho => ?_))
        · cbv; repeat' apply And.intro
          all_goals first | exact trivial | exact ⟨rfl⟩ | exact noCap
        · cbv; exact ⟨⟨fun h => h, ⟨rfl⟩, fun e e' j h _ _ hj => rowL_le e e' j h hj⟩, trivial⟩
        · subst ho; exact plain_of rfl
        · subst ho
          rw [hm]
          cbv
          refine hO.co (call_closed wakes_ok ?_)
          cbv
    | true =>
      have hok := (mayB_iff n _ _ _).1 hm
      refine hO.co (Spec.call (spec_all n n tm core kind fk flat [x] h0 (Int.le_refl _) (by omega) (by simp) (by simp) hm (fun i f1 f2 => (hr i f1 f2).1.2) 1 rfl) [.of 0, .of 1] rfl rfl ?_ ?_ (fun out ho => ?_) (fun out ho => ?_))
      · cbv; repeat' apply And.intro
        all_goals first | exact trivial | exact ⟨rfl⟩ | exact noCap
      · exact ⟨⟨(fun h => by cases h), one_row rfl⟩, ⟨fun h => h, rfl, ⟨rfl⟩, fun e e' j h _ _ hj => rowL_le e e' j h hj⟩, trivial⟩
      · obtain ⟨len, M, _, rfl⟩ := ho; exact all_plain
      · obtain ⟨len, M, hM, rfl⟩ := ho
        have hlen0 : 0 ≤ len := by have := hM.len; omega
        have hMs : M = spans tm core kind x n.toNat := by rw [hM.l]; exact allSp_one x _ (fun c => by simp) _
        have hM3 : len ≤ 900 := by
          have := hM.len
          have := spans_len tm core kind x n.toNat
          rw [← hMs] at this
          omega
        have hMlen : len = M.length := hM.len
        have hltM : ∀ a : Int, a < len → a < M.length := fun a h => by omega
        cbv
        refine hO.lo (loop_rule' (ι := { y : Int × Int // 0 ≤ y.1 ∧ y.1 ≤ n ∧ y.2 = cntC core x y.1.toNat })
          (fun st y => ⟨liveK st.tmps [0, 1, 5] [(7, .int .i64 (.sh y.1.2)), (8, .int .i64 (.sh y.1.1))],
            [(2, true, .row 33 5 (.sh len) (spF M)), (0, false, .row 31 5 (.sh n) (rowL tm core kind fk flat))], 3, []⟩)
          (fun y => (n - y.1.1).toNat) ⟨(0, 0), by simp, by simpa using h0, by simp [cntC]⟩ [] ?_ (fun h hh => by cases hh) (fun _ => rfl) fun y => ?_)
        · constructor
          · cbv; repeat' apply And.intro
            all_goals first | exact trivial | exact ⟨rfl⟩ | exact noCap
          · exact ⟨⟨fun h => h, rfl, ⟨rfl⟩, fun e e' j h _ _ hj => spF_le e e' j h hj⟩, ⟨fun h => h, rfl, ⟨rfl⟩, fun e e' j h _ _ hj => rowL_le e e' j h hj⟩, trivial⟩
          · cbv
          · cbv
          · cbv
        · refine Snd.of_run (X := Xf3) m1 (by decide +kernel) (by decide +kernel) 3000 (by decide +kernel) fun O1 hO1 => ?_
          obtain ⟨⟨i, many⟩, hi0, hi, hmany⟩ := y
          simp only at hi0 hi hmany
          have hcl := cntC_le core x i.toNat
          have hcs : ∀ b : Int, b = cntC core x i.toNat + (if core i = x then 1 else 0) → b = cntC core x (i + 1).toNat := fun b hb => by
            rw [hb, show (i + 1).toNat = i.toNat + 1 by omega]
            simp only [cntC]
            rw [show ((i.toNat : Nat) : Int) = i by omega]
          have hb1 : 0 ≤ many ∧ many ≤ i := by omega
          cbv
          repeat' (first | refine Br.mk (fun _ => ?_) (fun _ => ?_) | refine Ast.mk ?_ ?_)
          all_goals simp only [t_lss, f_lss, t_leq, t_eql, f_eql, E.i_sh, E.i_lit, E.i_f1, E.i_plus, Int.ofNat_eq_natCast] at *
          all_goals try omega
          · refine (?_ : ∀ b : Int, b = many + 1 → _) _ rfl
            intro b hb
            refine ⟨⟨(i + 1, b), by simp only; omega, by simp only; omega, hcs b (by rw [if_pos (by assumption)]; omega)⟩, [], ⟨?_, ?_, ?_, ?_, ?_⟩, ?_⟩
            · cbv; repeat' apply And.intro
              all_goals first | exact trivial | exact ⟨rfl⟩ | exact noCap | exact ⟨wrap64 (x := i + 1) (by omega) (by omega)⟩ | exact ⟨(wrap64 (x := many + 1) (by omega) (by omega)).trans hb.symm⟩
            · exact ⟨⟨fun h => h, rfl, ⟨rfl⟩, fun e e' j h _ _ hj => spF_le e e' j h hj⟩, ⟨fun h => h, rfl, ⟨rfl⟩, fun e e' j h _ _ hj => rowL_le e e' j h hj⟩, trivial⟩
            · cbv
            · cbv
            · cbv
            · simp only; omega
          · refine ⟨⟨(i + 1, many), by simp only; omega, by simp only; omega, hcs many (by rw [if_neg (by assumption)]; omega)⟩, [], ⟨?_, ?_, ?_, ?_, ?_⟩, ?_⟩
            · cbv; repeat' apply And.intro
              all_goals first | exact trivial | exact ⟨rfl⟩ | exact noCap | exact ⟨wrap64 (x := i + 1) (by omega) (by omega)⟩
            · exact ⟨⟨fun h => h, rfl, ⟨rfl⟩, fun e e' j h _ _ hj => spF_le e e' j h hj⟩, ⟨fun h => h, rfl, ⟨rfl⟩, fun e e' j h _ _ hj => rowL_le e e' j h hj⟩, trivial⟩
            · cbv
            · cbv
            · cbv
            · simp only; omega
          · obtain rfl : i = n := by omega
            refine hO.lo (loop_rule' (ι := { k : Int // 0 ≤ k ∧ k ≤ 3 })
              (fun st k => ⟨liveK st.tmps [0, 1, 5, 7] [(9, .int .i8 (.sh k.1))],
                [(2, true, .row 33 5 (.sh len) (spF M)), (0, false, .row 31 5 (.sh i) (rowL tm core kind fk flat))], 3, []⟩)
              (fun k => (3 - k.1).toNat) ⟨0, by simp, by simp⟩ [] ?_ (fun h hh => by cases hh) (fun _ => rfl) fun k => ?_)
            · constructor
              · cbv; repeat' apply And.intro
                all_goals first | exact trivial | exact ⟨rfl⟩ | exact noCap
              · exact ⟨⟨fun h => h, rfl, ⟨rfl⟩, fun e e' j h _ _ hj => spF_le e e' j h hj⟩, ⟨fun h => h, rfl, ⟨rfl⟩, fun e e' j h _ _ hj => rowL_le e e' j h hj⟩, trivial⟩
              · cbv
              · cbv
              · cbv
            · refine Snd.of_run (X := Xf3) m1 (by decide +kernel) (by decide +kernel) 3000 (by decide +kernel) fun O2 hO2 => ?_
              obtain ⟨k, hk0, hk⟩ := k
              cbv
              refine Br.mk (fun hk2 => ?_) (fun hk2 => ?_)
              · rw [t_leq] at hk2
                simp only [E.i_sh, E.i_lit] at hk2
                refine hO2.lo (loop_rule' (ι := { y : Int × Int × Bool // 0 ≤ y.1 ∧ y.1 ≤ len ∧ y.2.1 = endK k (M.take y.1.toNat) ∧ y.2.2 = openK k (M.take y.1.toNat) })
                  (fun st y => ⟨liveK st.tmps [0, 1, 5, 7, 9] [(10, .int .i64 (.sh y.1.2.1)), (11, .bool (.bs y.1.2.2)), (12, .int .i64 (.sh y.1.1))],
                    [(2, true, .row 33 5 (.sh len) (spF M)), (0, false, .row 31 5 (.sh i) (rowL tm core kind fk flat))], 3, []⟩)
                  (fun y => (len - y.1.1).toNat) ⟨(0, -1, false), by simp, by simpa using hlen0, by simp [endK], by simp [openK]⟩ [] ?_ (fun h hh => by cases hh) (fun _ => rfl) fun y => ?_)
                · constructor
                  · cbv; repeat' apply And.intro
                    all_goals first | exact trivial | exact ⟨rfl⟩ | exact noCap
                  · exact ⟨⟨fun h => h, rfl, ⟨rfl⟩, fun e e' j h _ _ hj => spF_le e e' j h hj⟩, ⟨fun h => h, rfl, ⟨rfl⟩, fun e e' j h _ _ hj => rowL_le e e' j h hj⟩, trivial⟩
                  · cbv
                  · cbv
                  · cbv
                · refine Snd.of_runP (X := Xf3) pl3 kn3 m1 (by decide +kernel) (by decide +kernel) 3000 (by decide +kernel) fun O3 hO3 => ?_
                  obtain ⟨⟨a, e, o⟩, ha0, ha, he, ho⟩ := y
                  simp only at ha0 ha he ho
                  have hmany' : many = cntC core x i.toNat := by omega
                  have hltM := hltM a
                  have P : a < M.length → PlaceOk tm core x i many M a := fun h => place_ok hok hMs hmany' ha0 h
                  refine (?_ : ∀ fr, fr = (M.getD a.toNat default).frm → ∀ tv, tv = (M.getD a.toNat default).to → ∀ ob, ob = decide ((M.getD a.toNat default).to < 0) → _) _ rfl _ rfl _ rfl
                  intro fr hfr tv htv ob hob
                  have t1 : (∃ j : Int, 0 ≤ j ∧ j < i ∧ core j = x ∧ tm j = (M.getD a.toNat default).frm) → Spec PP 11 [.sl 0 5 (.c 0) (.sh i) none, .int .i64 (.sh x), .int .i64 (.sh fr)] [(0, false, .row 31 5 (.sh i) (rowL tm core kind fk flat))] 1 (fun out => out = .val (.bool (.bl true))) := fun hex =>
                    (spec_there i x _ tm core kind fk flat h0 (by omega)).mono fun out h => by rw [h, there_true (by rw [hfr]; exact hex)]
                  have t2 : (∃ j : Int, 0 ≤ j ∧ j < i ∧ core j = x ∧ tm j = (M.getD a.toNat default).to) → Spec PP 11 [.sl 0 5 (.c 0) (.sh i) none, .int .i64 (.sh x), .int .i64 (.sh tv)] [(0, false, .row 31 5 (.sh i) (rowL tm core kind fk flat))] 1 (fun out => out = .val (.bool (.bl true))) := fun hex =>
                    (spec_there i x _ tm core kind fk flat h0 (by omega)).mono fun out h => by rw [h, there_true (by rw [htv]; exact hex)]
                  have e1 : a < M.length → ¬ (M.getD a.toNat default).kind = k → e = endK k (M.take (a + 1).toNat) := fun h hk => by rw [endK_succ ha0 h, if_neg hk]; exact he
                  have o1 : a < M.length → ¬ (M.getD a.toNat default).kind = k → o = openK k (M.take (a + 1).toNat) := fun h hk => by rw [openK_succ ha0 h, if_neg hk]; exact ho
                  have e3 : a < M.length → (M.getD a.toNat default).kind = k → tv = endK k (M.take (a + 1).toNat) := fun h hk => by rw [endK_succ ha0 h, if_pos hk]; exact htv
                  have o3 : a < M.length → (M.getD a.toNat default).kind = k → ob = openK k (M.take (a + 1).toNat) := fun h hk => by rw [openK_succ ha0 h, if_pos hk, hob]
                  have o2 : a < M.length → (M.getD a.toNat default).kind = k → ¬ o = true := fun h hk hh => by
                    have := ((P h).shut k hk).2
                    rw [← ho, hh] at this
                    cases this
                  have e2 : a < M.length → (M.getD a.toNat default).kind = k → e < (M.getD a.toNat default).frm := fun h hk => by
                    have := ((P h).shut k hk).1
                    rw [← he] at this
                    exact this
                  cbv
                  refine Br.mk (fun hlt => ?_) (fun hge => ?_)
                  · rw [t_lss] at hlt
                    simp only [E.i_sh] at hlt
                    refine Ast.mk (by rw [t_leq]; exact ha0) (Ast.mk (by rw [t_lss]; exact hlt) (Ast.mk (by rw [t_lss]; exact hlt) ?_))
                    have hM2 := hltM hlt
                    have P := P hM2
                    have e1 := e1 hM2
                    have e2 := e2 hM2
                    have e3 := e3 hM2
                    have o1 := o1 hM2
                    have o2 := o2 hM2
                    have o3 := o3 hM2
                    have t1 := t1 P.frm
                    refine PlanAs.mk (by kernel_rfl) ?_
                    refine Br.mk (fun hpos => ?_) (fun hpos => ?_)
                    · rw [t_gtr] at hpos
                      simp only [E.i_sh, E.i_lit] at hpos
                      have hw : IntKind.i64.wrap (a - 1) = a - 1 := wrap64 (by omega) (by omega)
                      refine Ast.mk (by rw [t_leq, i_sub, E.i_sh, E.i_lit, E.i_lit, hw]; omega) (Ast.mk (by rw [t_lss, i_sub, E.i_sh, E.i_lit, E.i_sh, hw]; omega) (Ast.mk (by rw [t_lss, i_sub, E.i_sh, E.i_lit, E.i_sh, hw]; omega) ?_))
                      refine KnownAs.mk (by rw [f_leq, E.i_f1, E.i_f1, i_sub, E.i_sh, E.i_lit, hw]; exact P.prev hpos) ?_
                      refine KnownAs.mk (by rw [f_not, t_eql]; exact P.core') (KnownAs.mk (by rw [f_lss]; exact P.n1) (KnownAs.mk (by rw [f_gtr]; exact P.n2) ?_))
                      refine hO3.co (Spec.call t1 [.of 0] rfl rfl ?_ ?_ (fun out ho => ?_) (fun out ho => ?_))
                      · cbv; repeat' apply And.intro
                        all_goals first | exact trivial | exact ⟨rfl⟩ | exact noCap | exact ⟨hfr.symm⟩ | exact ⟨htv.symm⟩
                      · exact ⟨⟨fun h => h, rfl, ⟨rfl⟩, fun e e' j h _ _ hj => rowL_le e e' j h hj⟩, trivial⟩
                      · subst ho; exact plain_of rfl
                      · subst ho
                        cbv
                        refine Br.mk (fun hto => ?_) (fun hto => ?_)
                        · rw [t_geq] at hto
                          have g := P.to'.resolve_left (Int.not_lt.2 hto)
                          refine KnownAs.mk (by rw [f_leq]; exact g.1) ?_
                          refine hO3.co (Spec.call (t2 g.2) [.of 0] rfl rfl ?_ ?_ (fun out ho => ?_) (fun out ho => ?_))
                          · cbv; repeat' apply And.intro
                            all_goals first | exact trivial | exact ⟨rfl⟩ | exact noCap | exact ⟨hfr.symm⟩ | exact ⟨htv.symm⟩
                          · exact ⟨⟨fun h => h, rfl, ⟨rfl⟩, fun e e' j h _ _ hj => rowL_le e e' j h hj⟩, trivial⟩
                          · subst ho; exact plain_of rfl
                          · subst ho
                            cbv
                            refine Br.mk (fun hkk => ?_) (fun hkk => ?_)
                            · rw [t_not, f_eql] at hkk
                              refine ⟨⟨(a + 1, e, o), by simp only; omega, by simp only; omega, e1 hkk, o1 hkk⟩, [], ⟨?_, ?_, ?_, ?_, ?_⟩, ?_⟩
                              · cbv; repeat' apply And.intro
                                all_goals first | exact trivial | exact ⟨rfl⟩ | exact noCap | exact ⟨wrap64 (x := a + 1) (by omega) (by omega)⟩
                              · exact ⟨⟨fun h => h, rfl, ⟨rfl⟩, fun e e' j h _ _ hj => spF_le e e' j h hj⟩, ⟨fun h => h, rfl, ⟨rfl⟩, fun e e' j h _ _ hj => rowL_le e e' j h hj⟩, trivial⟩
                              · cbv
                              · cbv
                              · cbv
                              · simp only; omega
                            · rw [f_not, t_eql] at hkk
                              refine Br.mk (fun hoo => ?_) (fun hoo => ?_)
                              · exact absurd hoo (o2 hkk)
                              · refine Br.mk (fun hfe => ?_) (fun _ => ?_)
                                · rw [t_leq] at hfe
                                  exact absurd hfe (Int.not_le.2 (e2 hkk))
                                · refine ⟨⟨(a + 1, tv, ob), by simp only; omega, by simp only; omega, e3 hkk, o3 hkk⟩, [], ⟨?_, ?_, ?_, ?_, ?_⟩, ?_⟩
                                  · cbv; repeat' apply And.intro
                                    all_goals first | exact trivial | exact ⟨rfl⟩ | exact noCap | exact ⟨wrap64 (x := a + 1) (by omega) (by omega)⟩ | exact ⟨htv.symm⟩ | exact ⟨hob.symm⟩
                                  · exact ⟨⟨fun h => h, rfl, ⟨rfl⟩, fun e e' j h _ _ hj => spF_le e e' j h hj⟩, ⟨fun h => h, rfl, ⟨rfl⟩, fun e e' j h _ _ hj => rowL_le e e' j h hj⟩, trivial⟩
                                  · cbv
                                  · cbv
                                  · cbv
                                  · simp only; omega
                        · rw [f_geq] at hto
                          refine Br.mk (fun hkk => ?_) (fun hkk => ?_)
                          · rw [t_not, f_eql] at hkk
                            refine ⟨⟨(a + 1, e, o), by simp only; omega, by simp only; omega, e1 hkk, o1 hkk⟩, [], ⟨?_, ?_, ?_, ?_, ?_⟩, ?_⟩
                            · cbv; repeat' apply And.intro
                              all_goals first | exact trivial | exact ⟨rfl⟩ | exact noCap | exact ⟨wrap64 (x := a + 1) (by omega) (by omega)⟩
                            · exact ⟨⟨fun h => h, rfl, ⟨rfl⟩, fun e e' j h _ _ hj => spF_le e e' j h hj⟩, ⟨fun h => h, rfl, ⟨rfl⟩, fun e e' j h _ _ hj => rowL_le e e' j h hj⟩, trivial⟩
                            · cbv
                            · cbv
                            · cbv
                            · simp only; omega
                          · rw [f_not, t_eql] at hkk
                            refine Br.mk (fun hoo => ?_) (fun hoo => ?_)
                            · exact absurd hoo (o2 hkk)
                            · refine Br.mk (fun hfe => ?_) (fun _ => ?_)
                              · rw [t_leq] at hfe
                                exact absurd hfe (Int.not_le.2 (e2 hkk))
                              · refine ⟨⟨(a + 1, tv, ob), by simp only; omega, by simp only; omega, e3 hkk, o3 hkk⟩, [], ⟨?_, ?_, ?_, ?_, ?_⟩, ?_⟩
                                · cbv; repeat' apply And.intro
                                  all_goals first | exact trivial | exact ⟨rfl⟩ | exact noCap | exact ⟨wrap64 (x := a + 1) (by omega) (by omega)⟩ | exact ⟨htv.symm⟩ | exact ⟨hob.symm⟩
                                · exact ⟨⟨fun h => h, rfl, ⟨rfl⟩, fun e e' j h _ _ hj => spF_le e e' j h hj⟩, ⟨fun h => h, rfl, ⟨rfl⟩, fun e e' j h _ _ hj => rowL_le e e' j h hj⟩, trivial⟩
                                · cbv
                                · cbv
                                · cbv
                                · simp only; omega
                    · refine KnownAs.mk (by rw [f_not, t_eql]; exact P.core') (KnownAs.mk (by rw [f_lss]; exact P.n1) (KnownAs.mk (by rw [f_gtr]; exact P.n2) ?_))
                      refine hO3.co (Spec.call t1 [.of 0] rfl rfl ?_ ?_ (fun out ho => ?_) (fun out ho => ?_))
                      · cbv; repeat' apply And.intro
                        all_goals first | exact trivial | exact ⟨rfl⟩ | exact noCap | exact ⟨hfr.symm⟩ | exact ⟨htv.symm⟩
                      · exact ⟨⟨fun h => h, rfl, ⟨rfl⟩, fun e e' j h _ _ hj => rowL_le e e' j h hj⟩, trivial⟩
                      · subst ho; exact plain_of rfl
                      · subst ho
                        cbv
                        refine Br.mk (fun hto => ?_) (fun hto => ?_)
                        · rw [t_geq] at hto
                          have g := P.to'.resolve_left (Int.not_lt.2 hto)
                          refine KnownAs.mk (by rw [f_leq]; exact g.1) ?_
                          refine hO3.co (Spec.call (t2 g.2) [.of 0] rfl rfl ?_ ?_ (fun out ho => ?_) (fun out ho => ?_))
                          · cbv; repeat' apply And.intro
                            all_goals first | exact trivial | exact ⟨rfl⟩ | exact noCap | exact ⟨hfr.symm⟩ | exact ⟨htv.symm⟩
                          · exact ⟨⟨fun h => h, rfl, ⟨rfl⟩, fun e e' j h _ _ hj => rowL_le e e' j h hj⟩, trivial⟩
                          · subst ho; exact plain_of rfl
                          · subst ho
                            cbv
                            refine Br.mk (fun hkk => ?_) (fun hkk => ?_)
                            · rw [t_not, f_eql] at hkk
                              refine ⟨⟨(a + 1, e, o), by simp only; omega, by simp only; omega, e1 hkk, o1 hkk⟩, [], ⟨?_, ?_, ?_, ?_, ?_⟩, ?_⟩
                              · cbv; repeat' apply And.intro
                                all_goals first | exact trivial | exact ⟨rfl⟩ | exact noCap | exact ⟨wrap64 (x := a + 1) (by omega) (by omega)⟩
                              · exact ⟨⟨fun h => h, rfl, ⟨rfl⟩, fun e e' j h _ _ hj => spF_le e e' j h hj⟩, ⟨fun h => h, rfl, ⟨rfl⟩, fun e e' j h _ _ hj => rowL_le e e' j h hj⟩, trivial⟩
                              · cbv
                              · cbv
                              · cbv
                              · simp only; omega
                            · rw [f_not, t_eql] at hkk
                              refine Br.mk (fun hoo => ?_) (fun hoo => ?_)
                              · exact absurd hoo (o2 hkk)
                              · refine Br.mk (fun hfe => ?_) (fun _ => ?_)
                                · rw [t_leq] at hfe
                                  exact absurd hfe (Int.not_le.2 (e2 hkk))
                                · refine ⟨⟨(a + 1, tv, ob), by simp only; omega, by simp only; omega, e3 hkk, o3 hkk⟩, [], ⟨?_, ?_, ?_, ?_, ?_⟩, ?_⟩
                                  · cbv; repeat' apply And.intro
                                    all_goals first | exact trivial | exact ⟨rfl⟩ | exact noCap | exact ⟨wrap64 (x := a + 1) (by omega) (by omega)⟩ | exact ⟨htv.symm⟩ | exact ⟨hob.symm⟩
                                  · exact ⟨⟨fun h => h, rfl, ⟨rfl⟩, fun e e' j h _ _ hj => spF_le e e' j h hj⟩, ⟨fun h => h, rfl, ⟨rfl⟩, fun e e' j h _ _ hj => rowL_le e e' j h hj⟩, trivial⟩
                                  · cbv
                                  · cbv
                                  · cbv
                                  · simp only; omega
                        · rw [f_geq] at hto
                          refine Br.mk (fun hkk => ?_) (fun hkk => ?_)
                          · rw [t_not, f_eql] at hkk
                            refine ⟨⟨(a + 1, e, o), by simp only; omega, by simp only; omega, e1 hkk, o1 hkk⟩, [], ⟨?_, ?_, ?_, ?_, ?_⟩, ?_⟩
                            · cbv; repeat' apply And.intro
                              all_goals first | exact trivial | exact ⟨rfl⟩ | exact noCap | exact ⟨wrap64 (x := a + 1) (by omega) (by omega)⟩
                            · exact ⟨⟨fun h => h, rfl, ⟨rfl⟩, fun e e' j h _ _ hj => spF_le e e' j h hj⟩, ⟨fun h => h, rfl, ⟨rfl⟩, fun e e' j h _ _ hj => rowL_le e e' j h hj⟩, trivial⟩
                            · cbv
                            · cbv
                            · cbv
                            · simp only; omega
                          · rw [f_not, t_eql] at hkk
                            refine Br.mk (fun hoo => ?_) (fun hoo => ?_)
                            · exact absurd hoo (o2 hkk)
                            · refine Br.mk (fun hfe => ?_) (fun _ => ?_)
                              · rw [t_leq] at hfe
                                exact absurd hfe (Int.not_le.2 (e2 hkk))
                              · refine ⟨⟨(a + 1, tv, ob), by simp only; omega, by simp only; omega, e3 hkk, o3 hkk⟩, [], ⟨?_, ?_, ?_, ?_, ?_⟩, ?_⟩
                                · cbv; repeat' apply And.intro
                                  all_goals first | exact trivial | exact ⟨rfl⟩ | exact noCap | exact ⟨wrap64 (x := a + 1) (by omega) (by omega)⟩ | exact ⟨htv.symm⟩ | exact ⟨hob.symm⟩
                                · exact ⟨⟨fun h => h, rfl, ⟨rfl⟩, fun e e' j h _ _ hj => spF_le e e' j h hj⟩, ⟨fun h => h, rfl, ⟨rfl⟩, fun e e' j h _ _ hj => rowL_le e e' j h hj⟩, trivial⟩
                                · cbv
                                · cbv
                                · cbv
                                · simp only; omega
                  · refine ⟨⟨k + 1, by omega, by omega⟩, [], ⟨?_, ?_, ?_, ?_, ?_⟩, ?_⟩
                    · cbv; repeat' apply And.intro
                      all_goals first | exact trivial | exact ⟨rfl⟩ | exact noCap | exact ⟨wrap8 (x := k + 1) (by omega) (by omega)⟩
                    · exact ⟨⟨fun h => h, rfl, ⟨rfl⟩, fun e e' j h _ _ hj => spF_le e e' j h hj⟩, ⟨fun h => h, rfl, ⟨rfl⟩, fun e e' j h _ _ hj => rowL_le e e' j h hj⟩, trivial⟩
                    · cbv
                    · cbv
                    · cbv
                    · simp only; omega
              · refine hO.co (call_closed wakes_ok ?_)
                cbv
end Go.Sx
