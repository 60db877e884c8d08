import Derived.Test.YtpkapjlcmoikoaaSpT
import Derived.Test.YtpkapjlcmoikoaaSpX
import Derived.Test.YtpkapjlcmoikoaaSpW
import Derived.Test.YtpkapjlcmoikoaaSpR
set_option linter.all false
namespace Go.Sx
open Go
def Xf5 : Cfg := ⟨[5, 9], [8, 10, 12, 14], false⟩
set_option maxRecDepth 100000
set_option maxHeartbeats 4000000
set_option linter.all false
def plan16 : Plan := .take 0 (.take 1 (.take 2 (.take 3 (.take 4 (.take 5 (.take 6 (.take 7 (.take 8 (.take 9 (.take 10 (.take 11 (.take 12 (.take 13 (.take 14 (.take 15 (.take 16 (.take 17 (.take 18 (.take 19 (.take 20 (.take 21 (.take 22 (.take 23 (.take 24 (.take 25 (.take 26 (.take 27 (.take 28 (.take 29 (.take 30 (.take 31 (.take 32 (.take 33 (.take 34 (.take 35 (.take 36 (.take 37 (.take 38 (.take 39 (.take 40 (.take 41 (.take 42 (.take 43 (.take 44 (.take 45 (.take 46 (.take 47 (.take 48 (.take 49 (.take 50 (.take 51 (.take 52 (.take 53 (.take 54 (.take 55 (.take 56 (.done)))))))))))))))))))))))))))))))))))))))))))))))))))))))))
def pl5 : Array Oper → Option Plan := fun ops => match Nat.beq ops.size 57 with
  | true => some plan16
  | false => none
/-- what is known of the guards -/
def knOf (ts fs : List Nat) : Nat → Option Bool := fun t => match has ts t with
  | true => some true
  | false => match has fs t with
    | true => some false
    | false => none
theorem sp_same {A B : List Sp} {i : Int} (h : B.getD i.toNat default = A.getD i.toNat default) :
    ((E.cmp BinOp.eql (E.f1 (spAt B Sp.core) (E.sh i)) (E.f1 (spAt A Sp.core) (E.sh i))).and ((E.cmp BinOp.eql (E.f1 (spAt B Sp.kind) (E.sh i)) (E.f1 (spAt A Sp.kind) (E.sh i))).and ((E.cmp BinOp.eql (E.f1 (spAt B Sp.frm) (E.sh i)) (E.f1 (spAt A Sp.frm) (E.sh i))).and ((E.cmp BinOp.eql (E.f1 (spAt B Sp.to) (E.sh i)) (E.f1 (spAt A Sp.to) (E.sh i))).and ((E.cmp BinOp.eql (E.f1 (spAt B Sp.n) (E.sh i)) (E.f1 (spAt A Sp.n) (E.sh i))).and (E.bl true)))))).b = true := by
  simp only [E.b_and, Bool.and_eq_true, t_eql, E.i_f1, E.i_sh, spAt, h, and_self, true_and]
  rfl
theorem walk_cut (x : Int) (_ : I64 x) (t : Int) (_ : I64 t) : WalkL 5 [.int .i64 (.sh x), .int .i64 (.sh t)] := by
  intro C n tm core kind fk flat h0 hn hr
  refine (CallOb.of_run (X := Xf5) m1 (by decide +kernel) (by decide +kernel) 3000 fun O hO => ?_).h
  cbv
  refine Br.mk (fun _ => ?_) (fun hle => ?_)
  · refine hO.co (call_closed wakes_ok ?_)
    cbv
  · rw [f_gtr] at hle
    simp only [E.i_sh, E.i_lit] at hle
    refine hO.co (Spec.call (spec_refmay n tm core kind fk flat h0 (by omega)) [.of 0] rfl rfl ?_ ?_ (fun out ho => ?_) (fun out ho => ?_))
    · cbv; repeat' apply And.intro
      all_goals first | exact trivial | exact ⟨rfl⟩ | exact noCap
    · cbv; exact ⟨⟨fun h => h, ⟨rfl⟩, fun e e' j h _ _ hj => rowL_le e e' j h hj⟩, trivial⟩
    · subst ho; exact plain_of rfl
    subst ho
    cases hm : mayB n tm core kind with
    | false =>
      cbv
      refine hO.co (call_closed wakes_ok ?_)
      cbv
    | true =>
      have hok := (mayB_iff n _ _ _).1 hm
      cbv
      refine hO.co (Spec.call (spec_all n n tm core kind fk flat [x] h0 (Int.le_refl _) (by omega) (by simp) (by simp) hm (fun i f1 f2 => (hr i f1 f2).1.2) 1 rfl) [.of 0, .of 1] rfl rfl ?_ ?_ (fun out ho => ?_) (fun out ho => ?_))
      · cbv; repeat' apply And.intro
        all_goals first | exact trivial | exact ⟨rfl⟩ | exact noCap
      · exact ⟨⟨(fun h => by cases h), one_row rfl⟩, ⟨fun h => h, rfl, ⟨rfl⟩, fun e e' j h _ _ hj => rowL_le e e' j h hj⟩, trivial⟩
      · obtain ⟨len, M, _, rfl⟩ := ho; exact all_plain
      obtain ⟨na, A, hA, rfl⟩ := ho
      cbv
      refine hO.co (Spec.call (spec_cut n n tm core kind fk flat t h0 (Int.le_refl _) (by omega)) [.of 0] rfl rfl ?_ ?_ (fun out ho => ?_) (fun out ho => ?_))
      · cbv; repeat' apply And.intro
        all_goals first | exact trivial | exact ⟨rfl⟩ | exact noCap
      · exact ⟨⟨fun h => h, rfl, ⟨rfl⟩, fun e e' j h _ _ hj => rowL_le e e' j h hj⟩, trivial⟩
      · obtain ⟨k, _, rfl⟩ := ho
        exact trivial
      obtain ⟨k, hk, rfl⟩ := ho
      have hmk : mayB k tm core kind = true := mayB_true _ _ _ _ fun i f1 f2 => hok i f1 (by have := hk.hn; omega)
      have hAs : A = spans tm core kind x n.toNat := by rw [hA.l]; exact allSp_one x _ (fun c => by simp) _
      have hk0 := hk.h0
      have hkn := hk.hn
      cbv
      refine hO.co (Spec.call (spec_all k n tm core kind fk flat [x] hk.h0 hk.hn (by omega) (by simp) (by simp) hmk (fun i f1 f2 => (hr i f1 (by omega)).1.2) 1 rfl) [.of 0, .of 3] rfl rfl ?_ ?_ (fun out ho => ?_) (fun out ho => ?_))
      · cbv; repeat' apply And.intro
        all_goals first | exact trivial | exact ⟨rfl⟩ | exact noCap
      · exact ⟨⟨(fun h => by cases h), one_row rfl⟩, ⟨fun h => h, rfl, ⟨rfl⟩, fun e e' j h _ _ hj => rowL_le e e' j h hj⟩, trivial⟩
      · obtain ⟨len, M, _, rfl⟩ := ho; exact all_plain
      obtain ⟨nb, B, hB, rfl⟩ := ho
      have hBs : B = spans tm core kind x k.toNat := by rw [hB.l]; exact allSp_one x _ (fun c => by simp) _
      obtain ⟨hnb, hpl⟩ := cut_place hok hk hAs hBs hA.len hB.len
      have hna3 : 0 ≤ na ∧ na ≤ 900 := by
        have h1 := hA.len
        have h2 := spans_len tm core kind x n.toNat
        rw [← hAs] at h2
        omega
      have hnb3 : 0 ≤ nb := by have := hB.len; omega
      cbv
      refine Br.mk (fun h => ?_) (fun _ => Br.mk (fun h => ?_) (fun _ => ?_))
      · rw [t_gtr] at h; simp only [E.i_sh] at h; omega
      · rw [t_gtr] at h; simp only [E.i_sh] at h; omega
      refine hO.lo (loop_rule' (ι := { i : Int // 0 ≤ i ∧ i ≤ na })
        (fun st i => ⟨liveK st.tmps [2, 7, 10] [(12, .int .i64 (.sh i.1))],
          [(4, true, .row 33 5 (.sh nb) (spF B)), (2, true, .row 33 5 (.sh na) (spF A)), (0, false, .row 31 5 (.sh n) (rowL tm core kind fk flat))], 5, []⟩)
        (fun i => (na - i.1).toNat) ⟨0, Int.le_refl _, hna3.1⟩ [] ?_ (fun h hh => by cases hh) (fun _ => rfl) fun i => ?_)
      · constructor
        · cbv; repeat' apply And.intro
          all_goals first | exact trivial | exact ⟨rfl⟩ | exact noCap
        · exact ⟨⟨fun h => h, rfl, ⟨rfl⟩, fun e e' j h _ _ hj => spF_le e e' j h hj⟩, ⟨fun h => h, rfl, ⟨rfl⟩, fun e e' j h _ _ hj => spF_le e e' j h hj⟩, ⟨fun h => h, rfl, ⟨rfl⟩, fun e e' j h _ _ hj => rowL_le e e' j h hj⟩, trivial⟩
        · cbv
        · cbv
        · cbv
      · obtain ⟨i, hi0, hi⟩ := i
        have hpl := hpl i hi0
        by_cases hib : i < nb
        · by_cases hto : (A.getD i.toNat default).to < 0
          · refine Snd.of_runP (X := Xf5) (pl5) (knOf [124] [72, 80, 90, 100, 110, 112, 121, 131, 142]) m1 (by decide +kernel) (by decide +kernel) 3000 (by decide +kernel) fun O1 hO1 => ?_
            cbv
            refine Br.mk (fun hlt => ?_) (fun hge => ?_)
            · rw [t_lss] at hlt
              simp only [E.i_sh] at hlt
              have hpl := hpl hlt
              refine Ast.mk (by rw [t_leq]; exact hi0) (Ast.mk (by rw [t_lss]; exact hlt) (Ast.mk (by rw [t_lss]; exact hlt) ?_))
              refine KnownAs.mk (by rw [f_geq]; exact hib) ?_
              refine KnownAs.mk (by rw [f_geq]; exact hto) ?_
              refine KnownAs.mk (by rw [f_geq]; exact (hpl.early hib).1) ?_
              refine Ast.mk (by rw [t_leq]; exact hi0) (Ast.mk (by rw [t_lss]; exact hib) (Ast.mk (by rw [t_lss]; exact hib) ?_))
              refine KnownAs.mk (by rw [f_not, t_eql]; exact (hpl.early hib).2.1) ?_
              refine Ast.mk (by rw [t_leq]; exact hi0) (Ast.mk (by rw [t_lss]; exact hib) (Ast.mk (by rw [t_lss]; exact hib) ?_))
              refine KnownAs.mk (by rw [f_not, t_eql]; exact (hpl.early hib).2.2) ?_
              refine Ast.mk (by rw [t_leq]; exact hi0) (Ast.mk (by rw [t_lss]; exact hib) (Ast.mk (by rw [t_lss]; exact hib) ?_))
              refine KnownAs.mk (by rw [f_not, t_eql]; exact (hpl.half hib (fun h => Int.not_le.2 hto h.1)).1) ?_
              refine Ast.mk (by rw [t_leq]; exact hi0) (Ast.mk (by rw [t_lss]; exact hib) (Ast.mk (by rw [t_lss]; exact hib) ?_))
              refine KnownAs.mk (by rw [f_gtr]; exact (hpl.half hib (fun h => Int.not_le.2 hto h.1)).2) ?_
              refine ⟨⟨i + 1, by omega, by omega⟩, [], ⟨?_, ?_, ?_, ?_, ?_⟩, ?_⟩
              · cbv; repeat' apply And.intro
                all_goals first | exact trivial | exact ⟨rfl⟩ | exact noCap | exact ⟨wrap64 (x := i + 1) (by omega) (by omega)⟩
              · exact ⟨⟨fun h => h, rfl, ⟨rfl⟩, fun e e' j h _ _ hj => spF_le e e' j h hj⟩, ⟨fun h => h, rfl, ⟨rfl⟩, fun e e' j h _ _ hj => spF_le e e' j h hj⟩, ⟨fun h => h, rfl, ⟨rfl⟩, fun e e' j h _ _ hj => rowL_le e e' j h hj⟩, trivial⟩
              · cbv
              · cbv
              · cbv
              · simp only; omega
            · rw [f_lss] at hge
              simp only [E.i_sh] at hge
              refine hO.co (call_closed wakes_ok ?_)
              cbv
          · by_cases htt : (A.getD i.toNat default).to < t
            · refine Snd.of_runP (X := Xf5) (pl5) (knOf [80, 112] [72, 90, 100, 110, 121, 124, 142]) m1 (by decide +kernel) (by decide +kernel) 3000 (by decide +kernel) fun O1 hO1 => ?_
              cbv
              refine Br.mk (fun hlt => ?_) (fun hge => ?_)
              · rw [t_lss] at hlt
                simp only [E.i_sh] at hlt
                have hpl := hpl hlt
                refine Ast.mk (by rw [t_leq]; exact hi0) (Ast.mk (by rw [t_lss]; exact hlt) (Ast.mk (by rw [t_lss]; exact hlt) ?_))
                refine KnownAs.mk (by rw [f_geq]; exact hib) ?_
                refine KnownAs.mk (by rw [t_geq]; exact Int.not_lt.1 hto) ?_
                refine KnownAs.mk (by rw [f_geq]; exact (hpl.early hib).1) ?_
                refine Ast.mk (by rw [t_leq]; exact hi0) (Ast.mk (by rw [t_lss]; exact hib) (Ast.mk (by rw [t_lss]; exact hib) ?_))
                refine KnownAs.mk (by rw [f_not, t_eql]; exact (hpl.early hib).2.1) ?_
                refine Ast.mk (by rw [t_leq]; exact hi0) (Ast.mk (by rw [t_lss]; exact hib) (Ast.mk (by rw [t_lss]; exact hib) ?_))
                refine KnownAs.mk (by rw [f_not, t_eql]; exact (hpl.early hib).2.2) ?_
                refine KnownAs.mk (by rw [t_lss]; exact htt) ?_
                refine Ast.mk (by rw [t_leq]; exact hi0) (Ast.mk (by rw [t_lss]; exact hib) (Ast.mk (by rw [t_lss]; exact hib) ?_))
                refine KnownAs.mk (by rw [f_not]; exact sp_same (hpl.whole hib (Int.not_lt.1 hto) htt)) ?_
                refine KnownAs.mk (by rw [f_not, t_lss]; exact htt) ?_
                refine ⟨⟨i + 1, by omega, by omega⟩, [], ⟨?_, ?_, ?_, ?_, ?_⟩, ?_⟩
                · cbv; repeat' apply And.intro
                  all_goals first | exact trivial | exact ⟨rfl⟩ | exact noCap | exact ⟨wrap64 (x := i + 1) (by omega) (by omega)⟩
                · exact ⟨⟨fun h => h, rfl, ⟨rfl⟩, fun e e' j h _ _ hj => spF_le e e' j h hj⟩, ⟨fun h => h, rfl, ⟨rfl⟩, fun e e' j h _ _ hj => spF_le e e' j h hj⟩, ⟨fun h => h, rfl, ⟨rfl⟩, fun e e' j h _ _ hj => rowL_le e e' j h hj⟩, trivial⟩
                · cbv
                · cbv
                · cbv
                · simp only; omega
              · rw [f_lss] at hge
                simp only [E.i_sh] at hge
                refine hO.co (call_closed wakes_ok ?_)
                cbv
            · refine Snd.of_runP (X := Xf5) (pl5) (knOf [80, 124] [72, 90, 100, 110, 112, 121, 131, 142]) m1 (by decide +kernel) (by decide +kernel) 3000 (by decide +kernel) fun O1 hO1 => ?_
              cbv
              refine Br.mk (fun hlt => ?_) (fun hge => ?_)
              · rw [t_lss] at hlt
                simp only [E.i_sh] at hlt
                have hpl := hpl hlt
                refine Ast.mk (by rw [t_leq]; exact hi0) (Ast.mk (by rw [t_lss]; exact hlt) (Ast.mk (by rw [t_lss]; exact hlt) ?_))
                refine KnownAs.mk (by rw [f_geq]; exact hib) ?_
                refine KnownAs.mk (by rw [t_geq]; exact Int.not_lt.1 hto) ?_
                refine KnownAs.mk (by rw [f_geq]; exact (hpl.early hib).1) ?_
                refine Ast.mk (by rw [t_leq]; exact hi0) (Ast.mk (by rw [t_lss]; exact hib) (Ast.mk (by rw [t_lss]; exact hib) ?_))
                refine KnownAs.mk (by rw [f_not, t_eql]; exact (hpl.early hib).2.1) ?_
                refine Ast.mk (by rw [t_leq]; exact hi0) (Ast.mk (by rw [t_lss]; exact hib) (Ast.mk (by rw [t_lss]; exact hib) ?_))
                refine KnownAs.mk (by rw [f_not, t_eql]; exact (hpl.early hib).2.2) ?_
                refine KnownAs.mk (by rw [f_lss]; exact Int.not_lt.1 htt) ?_
                refine KnownAs.mk (by rw [t_not, f_lss]; exact Int.not_lt.1 htt) ?_
                refine Ast.mk (by rw [t_leq]; exact hi0) (Ast.mk (by rw [t_lss]; exact hib) (Ast.mk (by rw [t_lss]; exact hib) ?_))
                refine KnownAs.mk (by rw [f_not, t_eql]; exact (hpl.half hib (fun h => htt h.2)).1) ?_
                refine Ast.mk (by rw [t_leq]; exact hi0) (Ast.mk (by rw [t_lss]; exact hib) (Ast.mk (by rw [t_lss]; exact hib) ?_))
                refine KnownAs.mk (by rw [f_gtr]; exact (hpl.half hib (fun h => htt h.2)).2) ?_
                refine ⟨⟨i + 1, by omega, by omega⟩, [], ⟨?_, ?_, ?_, ?_, ?_⟩, ?_⟩
                · cbv; repeat' apply And.intro
                  all_goals first | exact trivial | exact ⟨rfl⟩ | exact noCap | exact ⟨wrap64 (x := i + 1) (by omega) (by omega)⟩
                · exact ⟨⟨fun h => h, rfl, ⟨rfl⟩, fun e e' j h _ _ hj => spF_le e e' j h hj⟩, ⟨fun h => h, rfl, ⟨rfl⟩, fun e e' j h _ _ hj => spF_le e e' j h hj⟩, ⟨fun h => h, rfl, ⟨rfl⟩, fun e e' j h _ _ hj => rowL_le e e' j h hj⟩, trivial⟩
                · cbv
                · cbv
                · cbv
                · simp only; omega
              · rw [f_lss] at hge
                simp only [E.i_sh] at hge
                refine hO.co (call_closed wakes_ok ?_)
                cbv
        · refine Snd.of_runP (X := Xf5) (fun _ => none) (knOf [72] [76]) m1 (by decide +kernel) (by decide +kernel) 3000 (by decide +kernel) fun O1 hO1 => ?_
          cbv
          refine Br.mk (fun hlt => ?_) (fun hge => ?_)
          · rw [t_lss] at hlt
            simp only [E.i_sh] at hlt
            have hpl := hpl hlt
            refine Ast.mk (by rw [t_leq]; exact hi0) (Ast.mk (by rw [t_lss]; exact hlt) (Ast.mk (by rw [t_lss]; exact hlt) ?_))
            refine KnownAs.mk (by rw [t_geq]; exact Int.not_lt.1 hib) ?_
            refine KnownAs.mk (by rw [f_lss]; exact hpl.late (Int.not_lt.1 hib)) ?_
            refine ⟨⟨i + 1, by omega, by omega⟩, [], ⟨?_, ?_, ?_, ?_, ?_⟩, ?_⟩
            · cbv; repeat' apply And.intro
              all_goals first | exact trivial | exact ⟨rfl⟩ | exact noCap | exact ⟨wrap64 (x := i + 1) (by omega) (by omega)⟩
            · exact ⟨⟨fun h => h, rfl, ⟨rfl⟩, fun e e' j h _ _ hj => spF_le e e' j h hj⟩, ⟨fun h => h, rfl, ⟨rfl⟩, fun e e' j h _ _ hj => spF_le e e' j h hj⟩, ⟨fun h => h, rfl, ⟨rfl⟩, fun e e' j h _ _ hj => rowL_le e e' j h hj⟩, trivial⟩
            · cbv
            · cbv
            · cbv
            · simp only; omega
          · rw [f_lss] at hge
            simp only [E.i_sh] at hge
            refine hO.co (call_closed wakes_ok ?_)
            cbv
end Go.Sx
