import Derived.Test.YtpkapjlcmoikoaaSpE
import Derived.Test.YtpkapjlcmoikoaaSpW
import Derived.Test.YtpkapjlcmoikoaaSpR
set_option linter.all false
namespace Go.Sx
open Go
def Xf6 : Cfg := ⟨[6], [8, 10, 14, 15], false⟩
set_option maxRecDepth 100000
set_option maxHeartbeats 4000000
/-- how many of the first m entries are of a core below c, or of c and a kind below k -/
def totN (core kind : Int → Int) (c k : Int) : Nat → Int
  | 0 => 0
  | m + 1 => totN core kind c k m + (if core m < c ∨ (core m = c ∧ kind m < k) then 1 else 0)
def totI (core kind : Int → Int) (c k m : Int) : Int := totN core kind c k m.toNat
theorem totN_le (core kind : Int → Int) (c k : Int) : ∀ m, 0 ≤ totN core kind c k m ∧ totN core kind c k m ≤ m
  | 0 => by simp [totN]
  | m + 1 => by
    have := totN_le core kind c k m
    simp only [totN]
    split <;> omega
theorem totI_le (core kind : Int → Int) (c k : Int) {m : Int} (h : 0 ≤ m) : 0 ≤ totI core kind c k m ∧ totI core kind c k m ≤ m := by
  have := totN_le core kind c k m.toNat
  unfold totI
  omega
theorem totN_kind (core kind : Int → Int) (c k : Int) : ∀ m, totN core kind c (k + 1) m = totN core kind c k m + cntN core kind c k m
  | 0 => by simp [totN, cntN]
  | m + 1 => by
    have := totN_kind core kind c k m
    simp only [totN, cntN]
    split <;> split <;> split <;> omega
theorem totI_kind (core kind : Int → Int) (c k m : Int) : totI core kind c (k + 1) m = totI core kind c k m + cntI core kind c k m := totN_kind _ _ _ _ _
theorem totN_core (core kind : Int → Int) (c : Int) : ∀ m : Nat, (∀ i : Int, 0 ≤ i → i < m → 0 ≤ kind i ∧ kind i ≤ 13) → totN core kind c 14 m = totN core kind (c + 1) 0 m
  | 0, _ => by simp [totN]
  | m + 1, h => by
    have := totN_core core kind c m (fun i h1 h2 => h i h1 (by omega))
    have := h m (by omega) (by omega)
    simp only [totN]
    split <;> split <;> omega
theorem totN_first (core kind : Int → Int) : ∀ m : Nat, (∀ i : Int, 0 ≤ i → i < m → 1 ≤ core i ∧ 0 ≤ kind i) → totN core kind 0 0 m = 0
  | 0, _ => by simp [totN]
  | m + 1, h => by
    have := totN_first core kind m (fun i h1 h2 => h i h1 (by omega))
    have := h m (by omega) (by omega)
    simp only [totN]
    split <;> omega
theorem totN_last (core kind : Int → Int) : ∀ m : Nat, (∀ i : Int, 0 ≤ i → i < m → core i ≤ 8) → totN core kind 10 0 m = m
  | 0, _ => by simp [totN]
  | m + 1, h => by
    have := totN_last core kind m (fun i h1 h2 => h i h1 (by omega))
    have := h m (by omega) (by omega)
    simp only [totN]
    split <;> omega
theorem cntN_add (core kind : Int → Int) (c k : Int) (a : Nat) : ∀ b, cntN core kind c k (a + b) = cntN core kind c k a + cntN (fun i => core (a + i)) (fun i => kind (a + i)) c k b
  | 0 => by simp [cntN]
  | b + 1 => by
    have := cntN_add core kind c k a b
    rw [← Nat.add_assoc]
    simp only [cntN, this]
    rw [Int.natCast_add]
    omega
theorem cntI_parts (core kind : Int → Int) (c k : Int) {a n : Int} (h0 : 0 ≤ a) (hn : a ≤ n) : cntI core kind c k n = cntI core kind c k a + cntI (fun i => core (a + i)) (fun i => kind (a + i)) c k (n - a) := by
  have := cntN_add core kind c k a.toNat (n - a).toNat
  have e : ((a.toNat : Nat) : Int) = a := by omega
  rw [e] at this
  unfold cntI
  rw [← this]
  congr 1
  omega
section
variable {n : Int} {tm core kind : Int → Int} (hok : ∀ i : Int, 0 ≤ i → i < n → okAt tm core kind i)
include hok
theorem tot_start : totI core kind 0 0 n = 0 := totN_first core kind _ fun i h1 h2 => by
  obtain ⟨_, _, h3, _, h5, _⟩ := hok i h1 (by omega)
  exact ⟨h3, h5⟩
theorem tot_core (c : Int) : totI core kind c 14 n = totI core kind (c + 1) 0 n := totN_core core kind c _ fun i h1 h2 => by
  obtain ⟨_, _, _, _, h5, h6⟩ := hok i h1 (by omega)
  exact ⟨h5, h6⟩
theorem tot_last (h0 : 0 ≤ n) : totI core kind 10 0 n = n := by
  have := totN_last core kind n.toNat fun i h1 h2 => (hok i h1 (by omega)).2.2.2.1
  unfold totI
  omega
/-- the head and the tail of a log that may be, may be -/
theorem may_head {k : Int} (hk : k ≤ n) : mayB k (fun i => tm (0 + i)) (fun i => core (0 + i)) (fun i => kind (0 + i)) = true := by
  simp only [Int.zero_add]
  exact mayB_true _ _ _ _ fun i h1 h2 => hok i h1 (by omega)
theorem may_tail {k : Int} (hk : 0 ≤ k) : mayB (n - k) (fun i => tm (k + i)) (fun i => core (k + i)) (fun i => kind (k + i)) = true := by
  refine mayB_true _ _ _ _ fun i h1 h2 => ?_
  obtain ⟨g1, g2, g3⟩ := hok (k + i) (by omega) (by omega)
  refine ⟨g1, fun h => ?_, g3⟩
  have := g2 (by omega)
  rw [show k + i - 1 = k + (i - 1) by omega] at this
  exact this
end
theorem counts_of (n lo N : Int) (tm core kind fk flat : Int → Int) (c : Int) (h0 : 0 ≤ n) (hlo : 0 ≤ lo) (h1 : lo + n ≤ N) (hN : N ≤ 140737488355328) (hm : mayB n (fun i => tm (lo + i)) (fun i => core (lo + i)) (fun i => kind (lo + i)) = true) :
    Spec PP 15 [.sl 0 5 (.ix (.sh lo) 5 0) (.sh n) none, .int .i64 (.sh c)] [(0, false, .row 31 5 (.sh N) (rowL tm core kind fk flat))] 1 (fun out => out = .val (.tup [cntAgg (fun i => core (lo + i)) (fun i => kind (lo + i)) c n, .int .i64 (.lit 0)])) :=
  (spec_counts n lo N tm core kind fk flat c h0 hlo h1 hN).mono fun _ h => h.1 hm
theorem cnt_le {S : Nat → Option Src} {t : TypeId} (core kind : Int → Int) (c m : Int) : Oble S (.cells t ((List.range 14).map fun r => .int .i64 (.f1 (fun k => cntI core kind c k m) (.lit (r : Nat))))) (.row 3 1 (.lit 14) (cntRow core kind c m)) := by
  refine ⟨by simp, by simp, fun e j h0 h1 hj => ?_⟩
  rw [E.i_lit] at h1
  have hj0 : j = 0 := by omega
  subst hj0
  have h14 : e.i.toNat * 1 + 0 < 14 := by omega
  refine (?_ : SVle S (getT _ _) (.int .i64 (.f1 (fun k => cntI core kind c k m) e)))
  have he : e.i = ((e.i.toNat * 1 + 0 : Nat) : Int) := by omega
  revert he
  generalize e.i.toNat * 1 + 0 = q at h14
  intro he
  match q, h14 with
  | 0, _ | 1, _ | 2, _ | 3, _ | 4, _ | 5, _ | 6, _ | 7, _ | 8, _ | 9, _ | 10, _ | 11, _ | 12, _ | 13, _ => exact ⟨rfl, ⟨by rw [E.i_f1, E.i_f1, he]; rfl⟩⟩
theorem plain_cnt (core kind : Int → Int) (c n : Int) : Plain (.tup [cntAgg core kind c n, .int .i64 (.lit 0)]) := plain_of rfl
theorem walk_count (x : Int) (hx : I64 x) : WalkL 6 [.int .i64 (.sh x)] := by
  intro C n tm core kind fk flat h0 hn hr
  refine (CallOb.of_run (X := Xf6) m1 (by decide +kernel) (by decide +kernel) 3000 fun O hO => ?_).h
  cbv
  refine Br.mk (fun _ => ?_) (fun hle => ?_)
  · refine hO.co (call_closed wakes_ok ?_)
    cbv
  · rw [f_gtr] at hle
    simp only [E.i_sh, E.i_lit] at hle
    refine hO.co (Spec.call (spec_refmay n tm core kind fk flat h0 (by omega)) [.of 0] rfl rfl ?_ ?_ (fun out ho => ?_) (fun out ho => ?_))
    · cbv; repeat' apply And.intro
      all_goals first | exact trivial | exact ⟨rfl⟩ | exact noCap
    · cbv; exact ⟨⟨fun h => h, ⟨rfl⟩, fun e e' j h _ _ hj => rowL_le e e' j h hj⟩, trivial⟩
    · subst ho
      intro ρ ρ' v h
      simpa only [SV.R] using h
    · subst ho
      cases hm : mayB n tm core kind with
      | false =>
        cbv
        refine hO.co (call_closed wakes_ok ?_)
        cbv
      | true =>
        have hok := (mayB_iff n _ _ _).1 hm
        cbv
        refine hO.co (Spec.call (spec_cut n n tm core kind fk flat x h0 (Int.le_refl _) (by omega)) [.of 0] rfl rfl ?_ ?_ (fun out ho => ?_) (fun out ho => ?_))
        · cbv; repeat' apply And.intro
          all_goals first | exact trivial | exact ⟨rfl⟩ | exact noCap
        · cbv; exact ⟨⟨fun h => h, ⟨rfl⟩, fun e e' j h _ _ hj => rowL_le e e' j h hj⟩, trivial⟩
        · obtain ⟨k, _, rfl⟩ := ho
          exact trivial
        · obtain ⟨k, hk, rfl⟩ := ho
          cbv
          refine Br.mk (fun hgt => ?_) (fun _ => ?_)
          · rw [t_gtr] at hgt
            have := hk.hn
            simp only [E.i_sh] at hgt
            omega
          refine hO.lo (loop_rule (ι := { x : Int × Int // 0 ≤ x.1 ∧ x.1 ≤ 10 ∧ x.2 = totI core kind x.1 0 n })
            (fun x => ⟨live 94 [(0, .sl 0 5 (.c 0) (.sh n) none), (5, .sl 0 5 (.c 0) (.sh k) none), (6, .int .i64 (.sh x.1.2)), (7, .int .i64 (.sh x.1.1))],
              [(0, false, .row 31 5 (.sh n) (rowL tm core kind fk flat))], 1, []⟩)
            (fun x => (10 - x.1.1).toNat) ⟨(0, 0), by simp, by simp, (tot_start hok).symm⟩ [] ?_ (fun h hh => by cases hh) (fun _ => rfl) fun c => ?_)
          · constructor
            · cbv; repeat' apply And.intro
              all_goals first | exact trivial | exact ⟨rfl⟩ | exact noCap
            · cbv; exact ⟨⟨fun h => h, ⟨rfl⟩, fun e e' j h _ _ hj => rowL_le e e' j h hj⟩, trivial⟩
            · cbv
            · cbv
            · cbv
          · refine Snd.of_run (X := Xf6) m1 (by decide +kernel) (by decide +kernel) 3000 (by decide +kernel) fun O' hO' => ?_
            obtain ⟨⟨c, v⟩, hc0, hc, hv⟩ := c
            simp only at hc0 hc hv
            cbv
            refine Br.mk (fun hlt => ?_) (fun hge => ?_)
            · refine hO'.co (Spec.call (counts_of n 0 n tm core kind fk flat c h0 (Int.le_refl _) (by omega) (by omega) (may_head hok (Int.le_refl _))) [.of 0] rfl rfl ?_ ?_ (fun out ho => ?_) (fun out ho => ?_))
              · cbv; repeat' apply And.intro
                all_goals first | exact trivial | exact ⟨rfl⟩ | exact noCap | exact Int.le_refl _
              · cbv; exact ⟨⟨fun h => h, ⟨rfl⟩, fun e e' j h _ _ hj => rowL_le e e' j h hj⟩, trivial⟩
              · subst ho; exact plain_cnt _ _ _ _
              subst ho
              simp only [Int.zero_add]
              cbv
              refine hO'.co (Spec.call (counts_of k 0 n tm core kind fk flat c hk.h0 (Int.le_refl _) (by have := hk.hn; omega) (by omega) (may_head hok hk.hn)) [.of 0] rfl rfl ?_ ?_ (fun out ho => ?_) (fun out ho => ?_))
              · cbv; repeat' apply And.intro
                all_goals first | exact trivial | exact ⟨rfl⟩ | exact noCap | exact Int.le_refl _
              · cbv; exact ⟨⟨fun h => h, ⟨rfl⟩, fun e e' j h _ _ hj => rowL_le e e' j h hj⟩, trivial⟩
              · subst ho; exact plain_cnt _ _ _ _
              subst ho
              simp only [Int.zero_add]
              cbv
              obtain ⟨d, hd⟩ : ∃ d, d = n - k := ⟨_, rfl⟩
              refine Ast.mk (by rw [t_leq]; exact hk.h0) (Ast.mk (by rw [t_leq]; exact hk.hn) ?_)
              refine hO'.co (Spec.call (counts_of d k n tm core kind fk flat c (by have := hk.hn; omega) hk.h0 (by omega) (by omega) (by rw [hd]; exact may_tail hok hk.h0)) [.of 0] rfl rfl ?_ ?_ (fun out ho => ?_) (fun out ho => ?_))
              · cbv; repeat' apply And.intro
                all_goals first | exact trivial | exact ⟨rfl⟩ | exact noCap | exact hk.h0 | exact ⟨hd.symm⟩
              · cbv; exact ⟨⟨fun h => h, ⟨rfl⟩, fun e e' j h _ _ hj => rowL_le e e' j h hj⟩, trivial⟩
              · subst ho; exact plain_cnt _ _ _ _
              subst ho
              cbv
              refine hO'.lo (loop_rule (ι := { x : Int × Int // 0 ≤ x.1 ∧ x.1 ≤ 14 ∧ x.2 = totI core kind c x.1 n })
                (fun x => ⟨live 94 [(0, .sl 0 5 (.c 0) (.sh n) none), (5, .sl 0 5 (.c 0) (.sh k) none), (6, .int .i64 (.sh x.1.2)), (7, .int .i64 (.sh c)), (8, .ptr 1 (.c 0)), (10, .ptr 2 (.c 0)), (12, .ptr 3 (.c 0)), (14, .int .i64 (.sh x.1.1))],
                  [(3, true, .row 3 1 (.lit 14) (cntRow (fun i => core (k + i)) (fun i => kind (k + i)) c d)), (2, true, .row 3 1 (.lit 14) (cntRow core kind c k)), (1, true, .row 3 1 (.lit 14) (cntRow core kind c n)), (0, false, .row 31 5 (.sh n) (rowL tm core kind fk flat))], 4, []⟩)
                (fun x => (14 - x.1.1).toNat) ⟨(0, v), by simp, by simp, hv⟩ [] ?_ (fun h hh => by cases hh) (fun _ => rfl) fun y => ?_)
              · constructor
                · cbv; repeat' apply And.intro
                  all_goals first | exact trivial | exact ⟨rfl⟩ | exact noCap
                · exact ⟨⟨fun h => h, cnt_le _ _ _ _⟩, ⟨fun h => h, cnt_le _ _ _ _⟩, ⟨fun h => h, cnt_le _ _ _ _⟩, ⟨fun h => h, rfl, ⟨rfl⟩, fun e e' j h _ _ hj => rowL_le e e' j h hj⟩, trivial⟩
                · cbv
                · cbv
                · cbv
              · refine Snd.of_run (X := Xf6) m1 (by decide +kernel) (by decide +kernel) 3000 (by decide +kernel) fun O2 hO2 => ?_
                obtain ⟨⟨j, v'⟩, hj0, hj, hv'⟩ := y
                simp only at hj0 hj hv'
                cbv
                have hp := cntI_parts core kind c j hk.h0 hk.hn
                rw [← hd] at hp
                have b1 := cntI_le core kind c j hk.h0
                have b2 := cntI_le (fun i => core (k + i)) (fun i => kind (k + i)) c j (show 0 ≤ d by have := hk.hn; omega)
                have b3 := totI_le core kind c j h0
                have b4 := totI_le core kind c (j + 1) h0
                have b5 := totI_kind core kind c j n
                repeat' (first | refine Br.mk (fun _ => ?_) (fun _ => ?_) | refine Ast.mk ?_ ?_)
                all_goals simp only [t_lss, f_lss, t_leq, f_leq, t_not, f_not, t_eql, f_eql, E.i_sh, E.i_lit, E.i_f1, E.i_plus, i_add, Int.ofNat_eq_natCast] at *
                all_goals try omega
                · rename_i hne
                  rw [wrap64 (by omega) (by omega)] at hne
                  exact absurd hp hne
                · obtain ⟨s, hs⟩ : ∃ s, s = v' + cntI core kind c j n := ⟨_, rfl⟩
                  refine ⟨⟨(j + 1, s), by simp only; omega, by simp only; omega, by simp only; omega⟩, [], ⟨?_, ?_, ?_, ?_, ?_⟩, ?_⟩
                  · cbv; repeat' apply And.intro
                    all_goals first | exact trivial | exact ⟨rfl⟩ | exact noCap | exact ⟨wrap64 (x := j + 1) (by omega) (by omega)⟩ | exact ⟨(wrap64 (x := v' + cntI core kind c j n) (by omega) (by omega)).trans hs.symm⟩
                  · exact ⟨⟨fun h => h, rfl, ⟨rfl⟩, fun e e' j h _ _ hj => by exact ⟨rfl, ⟨by rw [E.i_f1, E.i_f1, h]⟩⟩⟩, ⟨fun h => h, rfl, ⟨rfl⟩, fun e e' j h _ _ hj => by exact ⟨rfl, ⟨by rw [E.i_f1, E.i_f1, h]⟩⟩⟩, ⟨fun h => h, rfl, ⟨rfl⟩, fun e e' j h _ _ hj => by exact ⟨rfl, ⟨by rw [E.i_f1, E.i_f1, h]⟩⟩⟩, ⟨fun h => h, rfl, ⟨rfl⟩, fun e e' j h _ _ hj => rowL_le e e' j h hj⟩, trivial⟩
                  · cbv
                  · cbv
                  · cbv
                  · simp only; omega
                · obtain rfl : j = 14 := by omega
                  refine ⟨⟨(c + 1, v'), by simp only; omega, by simp only; omega, by simp only; rw [hv']; exact tot_core hok c⟩, [], ⟨?_, ?_, ?_, ?_, ?_⟩, ?_⟩
                  · cbv; repeat' apply And.intro
                    all_goals first | exact trivial | exact ⟨rfl⟩ | exact noCap | exact ⟨wrap64 (x := c + 1) (by omega) (by omega)⟩
                  · exact ⟨⟨fun h => h, rfl, ⟨rfl⟩, fun e e' j h _ _ hj => rowL_le e e' j h hj⟩, trivial⟩
                  · cbv
                  · cbv
                  · cbv
                  · simp only; omega
            · refine Br.mk (fun _ => ?_) (fun hne => ?_)
              · refine hO.co (call_closed wakes_ok ?_)
                cbv
              · exfalso
                rw [f_leq] at hge
                rw [f_eql] at hne
                simp only [E.i_sh, E.i_lit] at hge hne
                obtain rfl : c = 10 := by omega
                exact hne (hv.trans (tot_last hok h0))
end Go.Sx
