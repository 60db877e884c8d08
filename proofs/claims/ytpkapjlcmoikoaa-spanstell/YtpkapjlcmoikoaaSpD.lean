import Derived.Test.YtpkapjlcmoikoaaSpC
set_option linter.all false
namespace Go.Sx
open Go
def Xcnt : Cfg := ⟨[15, 22], [23, 10], false⟩
set_option maxRecDepth 100000
/-- how many of the first m entries are of core c and of kind k -/
def cntN (core kind : Int → Int) (c k : Int) : Nat → Int
  | 0 => 0
  | m + 1 => cntN core kind c k m + (if core m = c ∧ kind m = k then 1 else 0)
theorem cntN_le (core kind : Int → Int) (c k : Int) : ∀ m, 0 ≤ cntN core kind c k m ∧ cntN core kind c k m ≤ m
  | 0 => by simp [cntN]
  | m + 1 => by
    have := cntN_le core kind c k m
    simp only [cntN]
    split <;> omega
def cntI (core kind : Int → Int) (c k m : Int) : Int := cntN core kind c k m.toNat
theorem cntI_zero (core kind : Int → Int) (c k : Int) : cntI core kind c k 0 = 0 := rfl
theorem cntI_succ (core kind : Int → Int) (c k : Int) {m : Int} (h : 0 ≤ m) : cntI core kind c k (m + 1) = cntI core kind c k m + (if core m = c ∧ kind m = k then 1 else 0) := by
  obtain ⟨a, rfl⟩ := Int.eq_ofNat_of_zero_le h
  rfl
theorem cntI_le (core kind : Int → Int) (c k : Int) {m : Int} (h : 0 ≤ m) : 0 ≤ cntI core kind c k m ∧ cntI core kind c k m ≤ m := by
  have := cntN_le core kind c k m.toNat
  unfold cntI
  omega
def cntRow (core kind : Int → Int) (c : Int) (m : Int) : Nat → E → SV := fun _ e => .int .i64 (.f1 (fun k => cntI core kind c k m) e)
def cntAgg (core kind : Int → Int) (c : Int) (m : Int) : SV := .agg ((List.range 14).map fun r => .int .i64 (.f1 (fun k => cntI core kind c k m) (.lit (r : Nat))))
def zeroAgg : SV := .agg ((List.range 14).map fun _ => .int .i64 (.lit 0))
theorem iteSV_int (c : E) (k : IntKind) (a b : E) : ∃ y, iteSV c (.int k a) (.int k b) = .int k y ∧ y.i = if c.b = true then a.i else b.i := by
  unfold iteSV
  split
  · exact ⟨a, rfl, rfl⟩
  · exact ⟨b, rfl, rfl⟩
  · simp only [decide_true]
    exact ⟨_, rfl, ite'_i _ _ _⟩
/-- one element of one cell, written -/
theorem rowPut1_le {S : Nat → Option Src} {F : Nat → E → SV} {k : IntKind} {i v e f x : E} (hF : F 0 e = .int k f) (h1 : e.i = i.i → v.i = x.i) (h2 : e.i ≠ i.i → f.i = x.i) : SVle S (rowPut F i 0 [.int k v] 0 e) (.int k x) := by
  have : rowPut F i 0 [.int k v] 0 e = iteSV (cmp' .eql e i) (.int k v) (F 0 e) := rfl
  rw [this, hF]
  obtain ⟨y, hy, hv⟩ := iteSV_int (cmp' .eql e i) k v f
  rw [hy]
  refine ⟨rfl, ⟨?_⟩⟩
  rw [hv, cmp'_b]
  by_cases he : e.i = i.i
  · rw [if_pos (by simp [cmpD, he])]; exact h1 he
  · rw [if_neg (by simp [cmpD, he])]; exact h2 he
section
variable (n : Int) (lo N : Int) (tm core kind fk flat : Int → Int) (c : Int)
theorem spec_counts (h0 : 0 ≤ n) (hlo : 0 ≤ lo) (h1 : lo + n ≤ N) (hN : N ≤ 140737488355328) : Spec PP 15 [.sl 0 5 (.ix (.sh lo) 5 0) (.sh n) none, .int .i64 (.sh c)] [(0, false, .row 31 5 (.sh N) (rowL tm core kind fk flat))] 1
    (fun out => (mayB n (fun i => tm (lo + i)) (fun i => core (lo + i)) (fun i => kind (lo + i)) = true → out = .val (.tup [cntAgg (fun i => core (lo + i)) (fun i => kind (lo + i)) c n, .int .i64 (.lit 0)])) ∧
      (mayB n (fun i => tm (lo + i)) (fun i => core (lo + i)) (fun i => kind (lo + i)) = false → out = .val (.tup [zeroAgg, .int .i64 (.lit 2)]))) := by
  intro C
  refine CallOb.of_run (X := Xcnt) m1 (by decide +kernel) (by decide +kernel) 3000 fun O hO => ?_
  cbv
  refine hO.co (Spec.call (spec_may n tm core kind fk flat lo N hlo h0 h1 hN) [.of 0] rfl rfl ?_ ?_ (fun out ho => ?_) (fun out ho => ?_))
  · cbv; repeat' apply And.intro
    all_goals first | exact trivial | exact ⟨rfl⟩ | exact noCap | exact hlo
  · cbv; exact ⟨⟨fun h => h, ⟨rfl⟩, fun e e' j h _ _ hj => rowL_le e e' j h hj⟩, trivial⟩
  · subst ho
    intro ρ ρ' v h
    simpa only [SV.R] using h
  · subst ho
    cases hm : mayB n (fun i => tm (lo + i)) (fun i => core (lo + i)) (fun i => kind (lo + i)) with
    | false =>
      cbv
      exact ⟨_, ⟨(fun h => by cases h), (fun _ => rfl)⟩, rfl⟩
    | true =>
      have hok := (mayB_iff n _ _ _).1 hm
      cbv
      refine hO.lo (loop_rule (ι := { m : Int // 0 ≤ m ∧ m ≤ n })
        (fun m => ⟨live 30 [(1, .int .i64 (.sh c)), (4, .ptr 1 (.c 0)), (12, .sl 0 5 (.ix (.sh lo) 5 0) (.sh n) none), (13, .int .i64 (.sh n)), (14, .int .i64 (.sh m.1))],
          [(1, true, .row 3 1 (.lit 14) (cntRow (fun i => core (lo + i)) (fun i => kind (lo + i)) c m.1)), (0, false, .row 31 5 (.sh N) (rowL tm core kind fk flat))], 2, []⟩)
        (fun m => (n - m.1).toNat) ⟨0, Int.le_refl _, h0⟩ [] ?_ (fun h hh => by cases hh) (fun _ => rfl) fun m => ?_)
      · constructor
        · cbv; repeat' apply And.intro
          all_goals first | exact trivial | exact ⟨rfl⟩ | exact noCap | exact hlo
        · cbv
          refine ⟨⟨fun h => h, fun e j h0 h1 hj => ?_⟩, ⟨fun h => h, ⟨rfl⟩, fun e e' j h _ _ hj => rowL_le e e' j h hj⟩, trivial⟩
          rw [E.i_lit] at h1
          have hj0 : j = 0 := by omega
          subst hj0
          have h14 : e.i.toNat * 1 + 0 < 14 := by omega
          generalize e.i.toNat * 1 + 0 = q at h14
          match q, h14 with
          | 0, _ | 1, _ | 2, _ | 3, _ | 4, _ | 5, _ | 6, _ | 7, _ | 8, _ | 9, _ | 10, _ | 11, _ | 12, _ | 13, _ => exact ⟨rfl, ⟨rfl⟩⟩
        · cbv
        · cbv
        · cbv
      · refine Snd.of_run (X := Xcnt) m1 (by decide +kernel) (by decide +kernel) 3000 (by decide +kernel) fun O hO => ?_
        obtain ⟨m, hm0, hmn⟩ := m
        have hkm : m < n → 0 ≤ kind (lo + m) ∧ kind (lo + m) ≤ 13 := fun h => ⟨(hok m hm0 h).2.2.2.2.1, (hok m hm0 h).2.2.2.2.2⟩
        cbv
        repeat' (first | refine Br.mk (fun _ => ?_) (fun _ => ?_) | refine Ast.mk ?_ ?_)
        all_goals simp only [t_lss, f_lss, t_leq, t_eql, f_eql, E.i_sh, E.i_lit, E.i_f1, E.i_plus, Int.ofNat_eq_natCast] at *
        all_goals try omega
        · have hs := fun k => cntI_succ (fun i => core (lo + i)) (fun i => kind (lo + i)) c k hm0
          have hl := cntI_le (fun i => core (lo + i)) (fun i => kind (lo + i)) c (kind (lo + m)) hm0
          refine ⟨⟨m + 1, by omega, by omega⟩, [], ⟨?_, ?_, ?_, ?_, ?_⟩, ?_⟩
          · cbv; repeat' apply And.intro
            all_goals first | exact trivial | exact ⟨rfl⟩ | exact noCap | exact hlo | exact ⟨wrap64 (x := m + 1) (by omega) (by omega)⟩
          · refine ⟨⟨fun h => h, rfl, ⟨rfl⟩, fun e e' j he h1 h2 hj => ?_⟩, ⟨fun h => h, rfl, ⟨rfl⟩, fun e e' j h _ _ hj => rowL_le e e' j h hj⟩, trivial⟩
            obtain rfl : j = 0 := by omega
            refine rowPut1_le (f := .f1 (fun k => cntI (fun i => core (lo + i)) (fun i => kind (lo + i)) c k m) e) rfl (fun h => ?_) (fun h => ?_)
            · simp only [E.i_f1, i_add, E.i_plus, E.i_sh, E.i_lit] at h ⊢
              rw [wrap64 (by omega) (by omega), ← he, h, hs, if_pos ⟨by assumption, rfl⟩]
            · simp only [E.i_f1, E.i_plus, E.i_sh] at h ⊢
              rw [← he, hs, if_neg (fun hh => h hh.2.symm), Int.add_zero]
          · cbv
          · cbv
          · cbv
          · simp only; omega
        · have hs := fun k => cntI_succ (fun i => core (lo + i)) (fun i => kind (lo + i)) c k hm0
          refine ⟨⟨m + 1, by omega, by omega⟩, [], ⟨?_, ?_, ?_, ?_, ?_⟩, ?_⟩
          · cbv; repeat' apply And.intro
            all_goals first | exact trivial | exact ⟨rfl⟩ | exact noCap | exact hlo | exact ⟨wrap64 (x := m + 1) (by omega) (by omega)⟩
          · refine ⟨⟨fun h => h, rfl, ⟨rfl⟩, fun e e' j he h1 h2 hj => ?_⟩, ⟨fun h => h, rfl, ⟨rfl⟩, fun e e' j h _ _ hj => rowL_le e e' j h hj⟩, trivial⟩
            refine ⟨rfl, ⟨?_⟩⟩
            simp only [E.i_f1]
            rw [← he, hs, if_neg (by intro hh; exact (by assumption : ¬ core (lo + m) = c) hh.1), Int.add_zero]
          · cbv
          · cbv
          · cbv
          · simp only; omega
        · obtain rfl : m = n := by omega
          exact ⟨_, ⟨fun _ => rfl, fun h => by cases h⟩, rfl⟩
end
end Go.Sx
