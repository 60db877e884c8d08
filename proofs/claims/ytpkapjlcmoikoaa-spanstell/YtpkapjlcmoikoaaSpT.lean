import Derived.Test.YtpkapjlcmoikoaaSpG
set_option linter.all false
/-
  All, as the laws call it.
-/
namespace Go.Sx
open Go
set_option maxRecDepth 100000
set_option linter.all false
section
variable (n N m : Int) (tm core kind fk flat : Int → Int) (cs : Int → Int)
theorem spec_all_bad (h0 : 0 ≤ n) (h1 : n ≤ N) (hN : N ≤ 1000) (hmay : mayB n tm core kind = false) : Spec PP 12 [.sl 0 5 (.c 0) (.sh n) none, .sl 1 1 (.c 0) (.sh m) none] [(1, false, .row 3 1 (.sh m) (intRow cs)), (0, false, .row 31 5 (.sh N) (rowL tm core kind fk flat))] 2
    (fun out => out = .val (.tup [.lit (.slice none 0 0), .int .i64 (.lit 2)])) := by
  intro C
  refine CallOb.of_run (X := Xall) m1 (by decide +kernel) (by decide +kernel) 3000 fun O hO => ?_
  cbv
  refine hO.co (Spec.call (spec_may n tm core kind fk flat 0 N (Int.le_refl _) h0 (by omega) (by omega)) [.of 0] rfl rfl ?_ ?_ (fun out ho => ?_) (fun out ho => ?_))
  · cbv; repeat' apply And.intro
    all_goals first | exact trivial | exact ⟨rfl⟩ | exact noCap | exact Int.le_refl _
  · cbv; exact ⟨⟨fun h => h, ⟨rfl⟩, fun e e' j h _ _ hj => rowL_le e e' j h hj⟩, trivial⟩
  · subst ho; exact plain_of rfl
  · subst ho
    simp only [Int.zero_add]
    rw [hmay]
    cbv
    exact ⟨_, rfl, rfl⟩
end
/-- a row that is given cell by cell -/
theorem ints_row {S : Nat → Option Src} {t t' : TypeId} {vs : List SV} {xs : List Int} {m : E} (hm : m.i = xs.length) (hl : vs.length = xs.length) (h : ∀ i, i < xs.length → ∃ e, getT vs i = .int .i64 e ∧ e.i = xs.getD i 0) : Oble S (.cells t vs) (.row t' 1 m (intRow (listI xs))) := by
  refine ⟨by omega, by omega, fun e j h0 h1 hj => ?_⟩
  obtain rfl : j = 0 := by omega
  obtain ⟨x, hx, hv⟩ := h (e.i.toNat * 1 + 0) (by omega)
  rw [hx]
  refine ⟨rfl, ⟨?_⟩⟩
  rw [hv, E.i_f1]
  unfold listI
  congr 1
  omega
theorem one_row {S : Nat → Option Src} {t t' : TypeId} {e : E} {x : Int} (he : e.i = x) : Oble S (.cells t [.int .i64 e]) (.row t' 1 (.sh 1) (intRow (listI [x]))) :=
  ints_row rfl rfl fun i hi => by
    obtain rfl : i = 0 := by simpa using hi
    exact ⟨e, rfl, he⟩
/-- of the plain what All hands back -/
theorem all_plain {len : Int} {M : List Sp} : Out.plain (.row (fun h => .tup [.sl h 5 (.c 0) (.sh len) none, .int .i64 (.lit 0)]) 33 5 (.sh len) (spF M)) := by
  refine ⟨fun ρ ρ' h h' v e hr => ?_, fun j e hj => ?_⟩
  · simp only [SV.R] at hr ⊢
    obtain ⟨x, rfl, hx⟩ := hr
    refine ⟨x, rfl, ?_⟩
    obtain ⟨x⟩ := x
    match x, hx with
    | [a, b], hx =>
      simp only [SV.RL, SV.R] at hx ⊢
      rw [e]
      exact hx
  · match j, hj with
    | 0, _ | 1, _ | 2, _ | 3, _ | 4, _ => exact plain_of rfl
end Go.Sx
