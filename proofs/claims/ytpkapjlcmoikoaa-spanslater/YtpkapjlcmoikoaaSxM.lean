import Derived.Test.YtpkapjlcmoikoaaSxL
set_option linter.all false
/-
  append, the rule.
-/
namespace Go.Sx
open Go

def joinRow (e : TypeId) (k : Nat) (V1 V2 : View) : Ob :=
  match V1.n with
  | .lit 0 => .row e k V2.n V2.F
  | _ => .row e k (plus' V1.n V2.n) (fun j i => iteSV (cmp' .lss i V1.n) (V1.F j i) (V2.F j (minus' i V1.n)))
theorem joinRow_cases (e : TypeId) (k : Nat) (V1 V2 : View) : (V1.n.i = 0 ∧ joinRow e k V1 V2 = .row e k V2.n V2.F) ∨ joinRow e k V1 V2 = .row e k (plus' V1.n V2.n) (fun j i => iteSV (cmp' .lss i V1.n) (V1.F j i) (V2.F j (minus' i V1.n))) := by
  unfold joinRow
  split
  · rename_i h
    exact .inl ⟨by rw [h]; rfl, rfl⟩
  · exact .inr rfl
/-- one element, all of whose cells are known: they are so whatever the index is called -/
def oneV (V : View) : View :=
  match V.lits, V.n with
  | some l, .lit 1 => ⟨V.ast, V.n, V.lits, fun j _ => getT l j⟩
  | _, _ => V
theorem oneV_n (V : View) : (oneV V).n = V.n := by
  unfold oneV
  split <;> rfl
theorem oneV_R {ρ : Rho} {k : Nat} {V : View} {ys : List Value} (l2 : ys.length = V.n.i.toNat * k) (r2 : ∀ l, V.lits = some l → SV.RL ρ l ys)
    (f2 : ∀ (e : E) (j : Nat), 0 ≤ e.i → e.i < V.n.i → j < k → ∃ x, ys[e.i.toNat * k + j]? = some x ∧ SV.R ρ (V.F j e) x) :
    ∀ (e : E) (j : Nat), 0 ≤ e.i → e.i < V.n.i → j < k → ∃ x, ys[e.i.toNat * k + j]? = some x ∧ SV.R ρ ((oneV V).F j e) x := by
  unfold oneV
  split
  · rename_i l hl hn
    intro e j h1 h2 h3
    rw [hn, E.i_lit] at h2 l2
    have he : e.i = 0 := by omega
    rw [he]
    have hrl := r2 l hl
    have hlen := RL_length hrl
    have hj : j < l.length := by rw [hlen, l2]; simpa using h3
    obtain ⟨x, hx, hr⟩ := RL_get hrl j _ (List.getElem?_eq_getElem hj)
    refine ⟨x, by simpa using hx, ?_⟩
    show SV.R ρ (getT l j) x
    rw [getT_eq]
    simpa [List.getD, List.getElem?_eq_getElem hj] using hr
  · exact f2

def joinOb (e : TypeId) (k : Nat) (V1 V2 : View) : Ob :=
  match V1.lits, V2.lits with
  | some a, some b => match a ++ b with
    | [] => joinRow e k V1 (oneV V2)
    | x :: r => .cells e (x :: r)
  | _, _ => joinRow e k V1 (oneV V2)

theorem joinOb_R {ρ : Rho} {w' : World} {e : TypeId} {k : Nat} {V1 V2 : View} {p : Pl} {xs ys : List Value} (h1 : 0 ≤ V1.n.i) (h2 : 0 ≤ V2.n.i) (l1 : xs.length = V1.n.i.toNat * k) (l2 : ys.length = V2.n.i.toNat * k)
    (o1 : ∀ x ∈ xs, x.oneCell' = true) (o2 : ∀ x ∈ ys, x.oneCell' = true)
    (r1 : ∀ l, V1.lits = some l → SV.RL ρ l xs) (r2 : ∀ l, V2.lits = some l → SV.RL ρ l ys)
    (f1 : ∀ (e : E) (j : Nat), 0 ≤ e.i → e.i < V1.n.i → j < k → ∃ x, xs[e.i.toNat * k + j]? = some x ∧ SV.R ρ (V1.F j e) x)
    (f2 : ∀ (e : E) (j : Nat), 0 ≤ e.i → e.i < V2.n.i → j < k → ∃ x, ys[e.i.toNat * k + j]? = some x ∧ SV.R ρ (V2.F j e) x)
    (hn : (V1.n.i.toNat + V2.n.i.toNat) * k ≤ p.n) (hc : ∀ q x, (xs ++ ys)[q]? = some x → w'.cell? (p.a.add q) = some x) : (joinOb e k V1 V2).R ρ w' (some p) := by
  have hone : ∀ x ∈ xs ++ ys, x.oneCell' = true := fun x hx => (List.mem_append.1 hx).elim (o1 x) (o2 x)
  have f2 := oneV_R l2 r2 f2
  rw [← oneV_n V2] at h2 l2 f2 hn
  have hrow : (joinRow e k V1 (oneV V2)).R ρ w' (some p) := by
    rcases joinRow_cases e k V1 (oneV V2) with ⟨h0, hj⟩ | hj
    · rw [hj]
      have hxs : xs = [] := List.length_eq_zero_iff.1 (by rw [l1, h0]; simp)
      subst hxs
      refine ⟨⟨h2, fun q hq => ?_⟩, fun ee j g1 g2 g3 => ?_⟩
      · cases hq
        refine Nat.le_trans (Nat.mul_le_mul_right _ ?_) hn
        omega
      · obtain ⟨x, hx, hr⟩ := f2 ee j g1 g2 g3
        exact ⟨p, x, rfl, hc _ _ (by simpa using hx), hone x (by simpa using List.mem_of_getElem? hx), hr⟩
    rw [hj]
    refine ⟨⟨by rw [plus'_i]; omega, fun q hq => ?_⟩, fun ee j g1 g2 g3 => ?_⟩
    · cases hq
      rw [plus'_i, Int.toNat_add h1 h2]
      exact hn
    · rw [plus'_i] at g2
      by_cases hlt : ee.i < V1.n.i
      · obtain ⟨x, hx, hr⟩ := f1 ee j g1 hlt g3
        have hx' : (xs ++ ys)[ee.i.toNat * k + j]? = some x := by
          rw [List.getElem?_append_left (List.getElem?_eq_some_iff.1 hx).1]; exact hx
        refine ⟨p, x, rfl, hc _ _ hx', hone x (List.mem_of_getElem? hx'), iteSV_R (fun _ => hr) (fun hcc => ?_)⟩
        rw [cmp'_b] at hcc
        exact absurd hlt (of_decide_eq_false hcc)
      · obtain ⟨x, hx, hr⟩ := f2 (minus' ee V1.n) j (by rw [minus'_i]; omega) (by rw [minus'_i]; omega) g3
        have hidx : ee.i.toNat * k + j = xs.length + ((minus' ee V1.n).i.toNat * k + j) := by
          rw [l1, minus'_i, ← Nat.add_assoc, ← Nat.add_mul]
          congr 2
          omega
        have hx' : (xs ++ ys)[ee.i.toNat * k + j]? = some x := by
          rw [hidx, List.getElem?_append_right (by omega), Nat.add_sub_cancel_left]; exact hx
        refine ⟨p, x, rfl, hc _ _ hx', hone x (List.mem_of_getElem? hx'), iteSV_R (fun hcc => ?_) (fun _ => hr)⟩
        rw [cmp'_b] at hcc
        exact absurd (of_decide_eq_true hcc) hlt
  unfold joinOb
  split
  · rename_i a b ha hb
    have hab := RL_append (r1 a ha) (r2 b hb)
    split
    · exact hrow
    · rename_i x0 r0 he
      rw [he] at hab
      refine ⟨p, rfl, ?_, fun j s hs => ?_⟩
      · rw [RL_length hab, List.length_append, l1, l2, ← Nat.add_mul]; exact hn
      · obtain ⟨x, hx, hr⟩ := RL_get hab j s hs
        exact ⟨x, hc j x hx, hone x (List.mem_of_getElem? hx), hr⟩
  · exact hrow

theorem joinRow_own {w : World} {p : Pl} {e : TypeId} {k : Nat} {V1 V2 : View} (h : OwnBlock w p) : (joinRow e k V1 V2).own w p := by
  unfold joinRow
  split <;> exact h
theorem joinOb_own {w : World} {p : Pl} {e : TypeId} {k : Nat} {V1 V2 : View} (h : OwnBlock w p) : (joinOb e k V1 V2).own w p := by
  unfold joinOb
  split
  · split
    · exact joinRow_own h
    · exact h
  · exact joinRow_own h

/-- a row of no element, that lies nowhere -/
theorem Rep.none {C : Cx} {ρ : Rho} {H : Heap} {nx : Nat} {w : World} (R : Rep C ρ H nx w) {t : TypeId} {k : Nat} {n : E} (hn : n.i = 0) (F : Nat → E → SV) : Rep C (rset ρ nx none) ((nx, true, .row t k n F) :: H) (nx + 1) w := by
  have hnx : ρ nx = Option.none := R.fresh nx (Nat.le_refl _)
  have hx := Ext.rset hnx Option.none
  have rnew : rset ρ nx Option.none nx = some Option.none := by simp [rset]
  have rold : ∀ i, i ≠ nx → rset ρ nx Option.none i = ρ i := fun i hne => by simp [rset, hne]
  have old : ∀ i x, hfind H i = some x → i ≠ nx := fun i x hf e => by have := hfind_lt R hf; omega
  refine ⟨?_, ?_, ?_, ?_, ?_, R.size, R.frame, R.os, R.tape, R.output, ⟨R.dfr.nd, R.dfr.blk, R.dfr.own, fun b hb i own x q hi hq => ?_⟩⟩
  rotate_left 5
  · rw [hfind_cons] at hi
    split at hi
    · rename_i e; subst e; cases hi
      rw [rnew] at hq; cases hq
    · rw [rold i (old _ _ hi)] at hq; exact R.dfr.sep b hb i own x q hi hq
  · intro i own x hi
    rw [hfind_cons] at hi
    split at hi
    · rename_i e; subst e; cases hi
      exact ⟨_, rnew, ⟨by rw [hn]; simp, fun p hp => by cases hp⟩, fun e j h1 h2 => by rw [hn] at h2; omega⟩
    · obtain ⟨op, h1, h2⟩ := R.obj i own x hi
      exact ⟨op, hx _ _ h1, Ob.R_of_block hx (fun _ _ => rfl) h2⟩
  · intro i x q hi hq
    rw [hfind_cons] at hi
    split at hi
    · rename_i e; subst e; rw [rnew] at hq; cases hq
    · rw [rold i (old _ _ hi)] at hq; exact R.own i x q hi hq
  · intro i x i' own' x' q q' hne hi hi' hq hq'
    rw [hfind_cons] at hi hi'
    split at hi
    · rename_i e; subst e; rw [rnew] at hq; cases hq
    · split at hi'
      · rename_i e; subst e; rw [rnew] at hq'; cases hq'
      · rw [rold i (old _ _ hi)] at hq
        rw [rold i' (old _ _ hi')] at hq'
        exact R.sep i x i' own' x' q q' hne hi hi' hq hq'
  · intro i hi; rw [rold i (by omega)]; exact R.fresh i (by omega)
  · intro i q hq
    by_cases e : i = nx
    · subst e; rw [rnew] at hq; cases hq
    · rw [rold i e] at hq; exact R.lt i q hq

inductive Mode where
  | same | grow | own (h : Nat)
/-- what is known of the room behind a slice -/
def capOf : SV → Option E
  | .lit (.slice none 0 0) => some (.lit 0)
  | .sl _ _ _ _ cap => cap
  | _ => none
def sureGrow (s : SV) (n : E) : Bool :=
  match capOf s with
  | some c => match cmp' .gtr n c with
    | .bl b => b
    | _ => false
  | none => false
def capGrow (s : SV) (n : E) : Option (List E × Mode) :=
  match capOf s with
  | some c => some ([cmp' .gtr n c], .grow)
  | none => none
def growOr (H : Heap) (s : SV) (n : E) : Option (List E × Mode) :=
  match s with
  | .sl h .. => match hfind H h with
    | some (true, _) => some ([], .own h)
    | _ => capGrow s n
  | _ => capGrow s n
/-- what an append does: nothing; a new block, and what must hold then; either, and the old row is gone -/
def modeOf (H : Heap) (s : SV) (n1 n2 : E) : Option (List E × Mode) :=
  match n2 with
  | .lit 0 => some ([], .same)
  | n2 => match sureGrow s (plus' n1 n2) with
    | true => some ([], .grow)
    | false => growOr H s (plus' n1 n2)

def appendN (P : Program) (H : Heap) (nx : Nat) (t : TypeId) (s x : SV) : Option NR :=
  match P.underlying t with
  | some (.slice e) => match P.info? e with
    | some i => match zeroL i with
      | some z => match Nat.beq z.length i.size, Nat.blt 0 i.size, Nat.blt 0 i.bytes with
        | true, true, true => match viewOf H i.size s, viewOf H i.size x with
          | some V1, some V2 => match modeOf H s V1.n V2.n with
            | some (a, .same) => some ⟨V1.ast ++ (V2.ast ++ a), s, H, nx, []⟩
            | some (a, .grow) => some ⟨V1.ast ++ (V2.ast ++ (a ++ below .leq (plus' V1.n V2.n) (.lit (140737488355328 / i.bytes : Nat)))), .sl nx i.size (.c 0) (plus' V1.n V2.n) none, (nx, true, joinOb e i.size V1 V2) :: H, nx + 1, []⟩
            | some (a, .own h) => some ⟨V1.ast ++ (V2.ast ++ (a ++ below .leq (plus' V1.n V2.n) (.lit (140737488355328 / i.bytes : Nat)))), .sl nx i.size (.c 0) (plus' V1.n V2.n) none, (nx, true, joinOb e i.size V1 V2) :: hdel H h, nx + 1, [h]⟩
            | none => none
          | _, _ => none
        | _, _, _ => none
      | none => none
    | none => none
  | _ => none

end Go.Sx
