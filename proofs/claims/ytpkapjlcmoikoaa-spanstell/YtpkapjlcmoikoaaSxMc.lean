import Derived.Test.YtpkapjlcmoikoaaSxM
import Derived.OrdersIn
import Derived.RangeFuncIn
import Derived.RangeFuncRecord
import Derived.LoopNIn
set_option linter.all false
/-
  append does what the rule says.
-/
namespace Go.Sx
open Go

section
variable {P : Program} {C : Cx} {ρ : Rho} {H : Heap} {nx : Nat} {g : Operand → Value} {o : Oper} {f : Operand → SV} {r : NR} {w : World}

theorem capGrow_grow {s : SV} {n : E} {a : List E} {m : Mode} (h : capGrow s n = some (a, m)) : m = .grow ∧ ∃ c, capOf s = some c ∧ a = [cmp' .gtr n c] := by
  unfold capGrow at h
  split at h
  · rename_i c hc
    cases h
    exact ⟨rfl, c, hc, rfl⟩
  · cases h
theorem growOr_some {s : SV} {n : E} {a : List E} {m : Mode} (h : growOr H s n = some (a, m)) : (∃ hd k off len cap ob, s = .sl hd k off len cap ∧ hfind H hd = some (true, ob) ∧ m = .own hd) ∨ (m = .grow ∧ ∃ c, capOf s = some c ∧ a = [cmp' .gtr n c]) := by
  unfold growOr at h
  split at h
  · split at h
    · rename_i hf
      cases h
      exact .inl ⟨_, _, _, _, _, _, rfl, hf, rfl⟩
    · exact .inr (capGrow_grow h)
  · exact .inr (capGrow_grow h)
theorem modeOf_same {s : SV} {n1 n2 : E} {a : List E} (h : modeOf H s n1 n2 = some (a, .same)) : n2.i = 0 := by
  unfold modeOf at h
  split at h
  · rfl
  · split at h
    · cases h
    · rcases growOr_some h with ⟨_, _, _, _, _, _, _, _, h3⟩ | ⟨h3, _⟩ <;> cases h3
theorem modeOf_own {s : SV} {n1 n2 : E} {a : List E} {hd : Nat} (h : modeOf H s n1 n2 = some (a, .own hd)) : ∃ k off len cap ob, s = .sl hd k off len cap ∧ hfind H hd = some (true, ob) := by
  unfold modeOf at h
  split at h
  · cases h
  · split at h
    · cases h
    · rcases growOr_some h with ⟨_, _, _, _, _, _, h1, h2, h3⟩ | ⟨h3, _⟩
      · cases h3
        exact ⟨_, _, _, _, _, h1, h2⟩
      · cases h3
theorem capOf_R {s : SV} {oa : Option Addr} {m c : Nat} {ce : E} (h : capOf s = some ce) (hs : SV.R ρ s (.slice oa m c)) : ce.i = (c : Int) := by
  unfold capOf at h
  split at h
  · cases h
    simp only [SV.R] at hs
    cases hs
    rfl
  · simp only [SV.R] at hs
    obtain ⟨_, _, _, _, _, _, he, _, _, hc, _⟩ := hs
    cases he
    exact hc _ h
  · cases h
theorem modeOf_grow {s : SV} {n1 n2 : E} {a : List E} (h : modeOf H s n1 n2 = some (a, .grow)) (ha : astOk a) {oa : Option Addr} {m c : Nat} (hs : SV.R ρ s (.slice oa m c)) : (c : Int) < n1.i + n2.i := by
  unfold modeOf at h
  split at h
  · cases h
  · split at h
    · rename_i hsure
      unfold sureGrow at hsure
      split at hsure
      · rename_i ce hce
        split at hsure
        · rename_i b hb
          have e := cmp'_b .gtr (plus' n1 n2) ce
          rw [hb, E.b_bl, hsure, plus'_i, capOf_R hce hs] at e
          exact of_decide_eq_true e.symm
        · cases hsure
      · cases hsure
    · rcases growOr_some h with ⟨_, _, _, _, _, _, _, _, h3⟩ | ⟨_, ce, hce, h3⟩
      · cases h3
      · subst h3
        have e := ha _ (List.mem_singleton.2 rfl)
        rw [cmp'_b, plus'_i, capOf_R hce hs] at e
        exact of_decide_eq_true e

/-- the append, with all that its cases lean on -/
theorem append_grow {e : TypeId} {i : TypeInfo} {z : Value} {V1 V2 : View} {oa oa2 : Option Addr} {c c2 : Nat} {xs ys : List Value} {t ty : TypeId}
    (ht : P.underlying t = some (.slice e)) (hi : P.info? e = some i) (hz : i.zero = some z) (hzl : z.cells.size = i.size) (hb0 : 0 < i.bytes) (R : Rep C ρ H nx w)
    (h1 : 0 ≤ V1.n.i) (h2 : 0 ≤ V2.n.i) (l1 : xs.length = V1.n.i.toNat * i.size) (l2 : ys.length = V2.n.i.toNat * i.size)
    (o1 : ∀ x ∈ xs, x.oneCell' = true) (o2 : ∀ x ∈ ys, x.oneCell' = true)
    (r1 : ∀ l, V1.lits = some l → SV.RL ρ l xs) (r2 : ∀ l, V2.lits = some l → SV.RL ρ l ys)
    (f1 : ∀ (e : E) (j : Nat), 0 ≤ e.i → e.i < V1.n.i → j < i.size → ∃ x, xs[e.i.toNat * i.size + j]? = some x ∧ SV.R ρ (V1.F j e) x)
    (f2 : ∀ (e : E) (j : Nat), 0 ≤ e.i → e.i < V2.n.i → j < i.size → ∃ x, ys[e.i.toNat * i.size + j]? = some x ∧ SV.R ρ (V2.F j e) x)
    (hold : (Builtin.firstCells i.size V1.n.i.toNat (.slice oa V1.n.i.toNat c)).run P w.drew = .ok xs.toArray w.drew)
    (hnew : (Builtin.firstCells i.size V2.n.i.toNat (.slice oa2 V2.n.i.toNat c2)).run P w.drew = .ok ys.toArray w.drew)
    (hlt : (c : Int) < V1.n.i + V2.n.i) (hby : (V1.n.i.toNat + V2.n.i.toNat) * i.bytes ≤ 140737488355328) :
    ∃ v w' ρ', (Agree ρ ρ' nx ∧ ρ'.d = ρ.d) ∧ Rep C ρ' ((nx, true, joinOb e i.size V1 V2) :: H) (nx + 1) w' ∧ SV.R ρ' (.sl nx i.size (.c 0) (plus' V1.n V2.n) none) v ∧
      (Builtin.append_ #[t, t] ty #[.slice oa V1.n.i.toNat c, .slice oa2 V2.n.i.toNat c2]).run P w = .ok v w' ∧ (∀ b, b < w.heap.size → w'.heap[b]? = w.heap[b]?) := by
  have hlt' : c < V1.n.i.toNat + V2.n.i.toNat := by omega
  have run := run_append_new (P := P) (ty := ty) ht hi hz (x := .slice oa2 V2.n.i.toNat c2) (n := V2.n.i.toNat) (sLen := V1.n.i.toNat) (sCap := c) (base := oa) (w := w) (olds := xs) (news := ys) (fun _ => by simp [Builtin.lenOf]) hold hnew hlt' hby (by omega)
  have hneed : V1.n.i.toNat + V2.n.i.toNat ≤ maxLen := by
    have := Nat.le_mul_of_pos_right (V1.n.i.toNat + V2.n.i.toNat) hb0
    simp only [maxLen]; omega
  have hge := grownCap_ge w (V1.n.i.toNat + V2.n.i.toNat) c e
  have hmax := grownCap_le_maxLen w (V1.n.i.toNat + V2.n.i.toNat) c e hneed
  generalize hg : grownCap w (V1.n.i.toNat + V2.n.i.toNat) c e = gc at run hge hmax
  generalize hcs : (xs.toArray ++ ys.toArray ++ Builtin.zeroCells z.cells (gc - (V1.n.i.toNat + V2.n.i.toNat))) = cs at run
  have hsz : cs.size = gc * i.size := by
    subst hcs
    simp only [Array.size_append, List.size_toArray, size_zeroCells, l1, l2, hzl, ← Nat.add_mul]
    congr 1; omega
  have R' : Rep C ρ H nx w.drew := R.drew
  have hx := Ext.rset (R.fresh nx (Nat.le_refl _)) (some (⟨⟨w.drew.heap.size, 0, none⟩, cs.size⟩ : Pl))
  have hcell : ∀ q x, (xs ++ ys)[q]? = some x → (w.drew.alloc (.cells cs e)).cell? ((⟨w.drew.heap.size, 0, none⟩ : Addr).add q) = some x := fun q x hq => by
    rw [cell_new]
    subst hcs
    have hql : q < (xs ++ ys).length := (List.getElem?_eq_some_iff.1 hq).1
    rw [Array.getElem?_append_left (by simpa using hql)]
    rw [← hq]
    simp
  refine ⟨_, _, rset ρ nx (some ⟨⟨w.drew.heap.size, 0, none⟩, cs.size⟩), ⟨Agree.rset ρ (Nat.le_refl _) _, rfl⟩, R'.alloc cs e _ ?_, ?_, run, fun b hb => heap_alloc_lt w.drew _ _ hb⟩
  · exact joinOb_R h1 h2 l1 l2 o1 o2 (fun l hl => RL_mono hx _ _ (r1 l hl)) (fun l hl => RL_mono hx _ _ (r2 l hl))
      (fun e j a b c => let ⟨x, p, q⟩ := f1 e j a b c; ⟨x, p, R_mono hx _ _ q⟩) (fun e j a b c => let ⟨x, p, q⟩ := f2 e j a b c; ⟨x, p, R_mono hx _ _ q⟩)
      (by rw [hsz]; exact Nat.mul_le_mul_right _ hge) hcell
  · simp only [SV.R]
    refine ⟨trivial, by rw [plus'_i]; omega, some ⟨⟨w.drew.heap.size, 0, none⟩, cs.size⟩, some ⟨w.heap.size, 0, none⟩, gc, by simp [rset], ?_, ?_, hmax, (fun e he => by cases he), fun _ => ⟨_, rfl, by simp only [Off.n, Addr.add]; rfl, by rw [hsz]; simp [Off.n]⟩⟩
    · rw [plus'_i, Int.toNat_add h1 h2]
    · rw [plus'_i, Int.toNat_add h1 h2]; exact hge

theorem append_in {e : TypeId} {i : TypeInfo} {V1 V2 : View} {p : Pl} {n : Nat} {ob : Ob} {hd : Nat} {oa2 : Option Addr} {c c2 : Nat} {xs ys : List Value} {t ty : TypeId}
    (ht : P.underlying t = some (.slice e)) (hi : P.info? e = some i) (R : Rep C ρ H nx w)
    (hf : hfind H hd = some (true, ob)) (hp : ρ hd = some (some p)) (hown : OwnBlock w p)
    (h1 : 0 ≤ V1.n.i) (h2 : 0 ≤ V2.n.i) (l1 : xs.length = V1.n.i.toNat * i.size) (l2 : ys.length = V2.n.i.toNat * i.size)
    (o1 : ∀ x ∈ xs, x.oneCell' = true) (o2 : ∀ x ∈ ys, x.oneCell' = true)
    (r1 : ∀ l, V1.lits = some l → SV.RL ρ l xs) (r2 : ∀ l, V2.lits = some l → SV.RL ρ l ys)
    (f1 : ∀ (e : E) (j : Nat), 0 ≤ e.i → e.i < V1.n.i → j < i.size → ∃ x, xs[e.i.toNat * i.size + j]? = some x ∧ SV.R ρ (V1.F j e) x)
    (f2 : ∀ (e : E) (j : Nat), 0 ≤ e.i → e.i < V2.n.i → j < i.size → ∃ x, ys[e.i.toNat * i.size + j]? = some x ∧ SV.R ρ (V2.F j e) x)
    (hold : ∀ q x, xs[q]? = some x → w.cell? ((p.a.add n).add q) = some x)
    (hnew : (Builtin.firstCells i.size V2.n.i.toNat (.slice oa2 V2.n.i.toNat c2)).run P w = .ok ys.toArray w)
    (hroom : V1.n.i.toNat + V2.n.i.toNat ≤ c) (hcm : c ≤ maxLen) (hpn : n + c * i.size ≤ p.n) :
    ∃ v w' ρ', (Agree ρ ρ' nx ∧ ρ'.d = ρ.d) ∧ Rep C ρ' ((nx, true, joinOb e i.size V1 V2) :: hdel H hd) (nx + 1) w' ∧ SV.R ρ' (.sl nx i.size (.c 0) (plus' V1.n V2.n) none) v ∧
      (Builtin.append_ #[t, t] ty #[.slice (some (p.a.add n)) V1.n.i.toNat c, .slice oa2 V2.n.i.toNat c2]).run P w = .ok v w' ∧ (∀ b, b ≠ p.a.block → w'.heap[b]? = w.heap[b]?) := by
  have hown' := hown
  obtain ⟨cs, t', hb1, hb2, hspot⟩ := hown'
  have hmul : (V1.n.i.toNat + V2.n.i.toNat) * i.size ≤ c * i.size := Nat.mul_le_mul_right _ hroom
  rw [Nat.add_mul] at hmul
  have hin : ∀ j, j < ys.length → (w.cell? ⟨p.a.block, p.a.off + (n + V1.n.i.toNat * i.size + j), none⟩).isSome = true := fun j hj => by
    rw [l2] at hj
    generalize V1.n.i.toNat * i.size = A at *
    generalize V2.n.i.toNat * i.size = B at *
    generalize c * i.size = D at *
    simp only [World.cell?, hb1]
    rw [Array.getElem?_eq_getElem (by omega)]
    rfl
  have ha1 := Addr.add_block p.a n
  have ha2 := Addr.add_off p.a n
  have ha3 := Addr.add_spot hspot n
  have run := run_append_in (P := P) (ty := ty) ht hi (a := p.a.add n) ha3 (x := .slice oa2 V2.n.i.toNat c2) (n := V2.n.i.toNat) (sLen := V1.n.i.toNat) (sCap := c) (w := w) (news := ys) (fun _ => by simp [Builtin.lenOf]) hnew hroom
    (fun j hj => by rw [ha1, ha2]; have := hin j hj; simpa [Nat.add_assoc] using this) (fun j hj => by rw [ha1]; simp only [World.frozen?, hb1]; simp) o2
  rw [ha1, ha2] at run
  obtain ⟨s1, s2, s3, s4⟩ := setCells_same p.a.block ys (p.a.off + n + V1.n.i.toNat * i.size) w
  have hx := Ext.rset (R.fresh nx (Nat.le_refl _)) (some (⟨p.a.add n, p.n - n⟩ : Pl))
  have how := setCells_own ys (p.a.off + n + V1.n.i.toNat * i.size) w hown
  have hadd : ∀ q, (p.a.add n).add q = ⟨p.a.block, p.a.off + n + q, none⟩ := fun q => by
    have e1 := Addr.add_block (p.a.add n) q
    have e2 := Addr.add_off (p.a.add n) q
    have e3 := Addr.add_spot ha3 q
    cases hh : (p.a.add n).add q
    simp_all
  have hcell : ∀ q x, (xs ++ ys)[q]? = some x → (w.setCells p.a.block (p.a.off + n + V1.n.i.toNat * i.size) ys).cell? ((p.a.add n).add q) = some x := fun q x hq => by
    rw [hadd]
    by_cases hql : q < xs.length
    · rw [List.getElem?_append_left hql] at hq
      rw [World.cell?_setCells_out _ _ _ _ _ (fun _ _ => Or.inl (by simp only; omega)), ← hadd]
      exact hold q x hq
    · rw [List.getElem?_append_right (by omega)] at hq
      have hq2 := (List.getElem?_eq_some_iff.1 hq).1
      have := World.cell?_setCells_in p.a.block ys (p.a.off + n + V1.n.i.toNat * i.size) w (fun j hj => by have := hin j hj; simpa [Nat.add_assoc] using this) (q - xs.length) hq2
      have hqe : p.a.off + n + q = p.a.off + n + V1.n.i.toNat * i.size + (q - xs.length) := by omega
      rw [hqe, this]
      rw [List.getElem?_eq_getElem hq2] at hq
      exact hq
  refine ⟨_, _, rset ρ nx (some ⟨p.a.add n, p.n - n⟩), ⟨Agree.rset ρ (Nat.le_refl _) _, rfl⟩, R.move hf hp (p' := ⟨p.a.add n, p.n - n⟩) ha1 (fun b hb => setCells_other _ _ _ _ b hb) s1 ?_ s2 s3 s4 ?_, ?_, run, fun b hb => setCells_other _ _ _ _ b hb⟩
  · refine joinOb_own ?_
    obtain ⟨cs', t'', g1, g2, g3⟩ := how
    refine ⟨cs', t'', by rw [ha1]; exact g1, ?_, ha3⟩
    rw [ha2]
    have : n ≤ p.n := by omega
    simp only
    omega
  · exact joinOb_R h1 h2 l1 l2 o1 o2 (fun l hl => RL_mono hx _ _ (r1 l hl)) (fun l hl => RL_mono hx _ _ (r2 l hl))
      (fun e j a b c => let ⟨x, p, q⟩ := f1 e j a b c; ⟨x, p, R_mono hx _ _ q⟩) (fun e j a b c => let ⟨x, p, q⟩ := f2 e j a b c; ⟨x, p, R_mono hx _ _ q⟩)
      (by rw [Nat.add_mul]; simp only; omega) hcell
  · simp only [SV.R]
    refine ⟨trivial, by rw [plus'_i]; omega, some ⟨p.a.add n, p.n - n⟩, some (p.a.add n), c, by simp [rset], ?_, ?_, hcm, (fun e he => by cases he), fun _ => ⟨_, rfl, by simp [Off.n, Addr.add], by simp only [Off.n]; omega⟩⟩
    · rw [plus'_i, Int.toNat_add h1 h2]
    · rw [plus'_i, Int.toNat_add h1 h2]; exact hroom


theorem Rep.del_old {C : Cx} {ρ : Rho} {H : Heap} {nx : Nat} {w : World} {ob : Bool × Ob} {hd : Nat} (hne : nx ≠ hd) (R : Rep C ρ ((nx, ob) :: H) (nx + 1) w) : Rep C ρ ((nx, ob) :: hdel H hd) (nx + 1) w := by
  have := R.del hd
  simp only [hdel, nbeq, hne, decide_false] at this
  exact this

theorem append_nothing {e : TypeId} {i : TypeInfo} {V1 V2 : View} {xs ys : List Value} {oa : Option Addr} {c : Nat} (R : Rep C ρ H nx w)
    (h1 : V1.n.i = 0) (h2 : V2.n.i = 0) (l1 : xs.length = V1.n.i.toNat * i.size) (l2 : ys.length = V2.n.i.toNat * i.size)
    (r1 : ∀ l, V1.lits = some l → SV.RL ρ l xs) (r2 : ∀ l, V2.lits = some l → SV.RL ρ l ys) (hc : c = 0) :
    Rep C (rset ρ nx none) ((nx, true, joinOb e i.size V1 V2) :: H) (nx + 1) w ∧ SV.R (rset ρ nx none) (.sl nx i.size (.c 0) (plus' V1.n V2.n) none) (.slice oa 0 c) := by
  subst hc
  constructor
  · have hrow : joinOb e i.size V1 V2 = joinRow e i.size V1 (oneV V2) := by
      unfold joinOb
      split
      · rename_i a b ha hb
        have h : (a ++ b).length = 0 := by
          rw [RL_length (RL_append (r1 a ha) (r2 b hb)), List.length_append, l1, l2, h1, h2]
          simp
        split
        · rfl
        · rename_i x r hx
          rw [hx] at h
          simp at h
      · rfl
    rw [hrow]
    rcases joinRow_cases e i.size V1 (oneV V2) with ⟨_, hj⟩ | hj
    · rw [hj]
      exact R.none (by rw [oneV_n, h2]) _
    · rw [hj]
      exact R.none (by rw [plus'_i, oneV_n, h1, h2]; rfl) _
  · simp only [SV.R]
    refine ⟨trivial, by rw [plus'_i, h1, h2]; simp, none, oa, 0, by simp [rset], by rw [plus'_i, h1, h2]; rfl, by rw [plus'_i, h1, h2]; simp, by simp [maxLen], (fun e he => by cases he), fun h => absurd rfl h⟩

theorem appendN_ok {c : Call} {t : TypeId} {s x : Operand} (hop : o.op = .call c) (hc : c.callee = .builtin .append) (ht : c.argTypes.toList = [t, t]) (hargs : c.args.toList = [s, x]) (hR : RO ρ f g) (R : Rep C ρ H nx w)
    (h : appendN P H nx t (f s) (f x) = some r) (ha : astOk r.ast) : NOk P C ρ nx g o r w := by
  have hv' : c.args.map g = #[g s, g x] := by rw [← Array.toArray_toList (xs := c.args.map g), Array.toList_map, hargs]; rfl
  have ht' : c.argTypes = #[t, t] := by rw [← Array.toArray_toList (xs := c.argTypes), ht]
  have ex : execOp g o = (do pure (.value (← Builtin.append_ #[t, t] o.type #[g s, g x])) : Sem Next) := by rw [exec_builtin hop hc, hv', ht']; rfl
  unfold appendN at h
  split at h
  · rename_i e hu
    split at h
    · rename_i i hi
      split at h
      · rename_i z hz
        split at h
        · rename_i hz1 hz2 hz3
          have hz1 := Nat.eq_of_beq_eq_true hz1
          have hz2 : 0 < i.size := Nat.ble_eq.mp hz2
          have hz3 : 0 < i.bytes := Nat.ble_eq.mp hz3
          unfold zeroL at hz
          split at hz
          · rename_i zv hzv
            cases hz
            have hzl : zv.cells.size = i.size := by simpa using hz1
            split at h
            · rename_i V1 V2 hV1 hV2
              have key : ∀ a b : List E, r.ast = V1.ast ++ (V2.ast ++ (a ++ b)) → astOk V1.ast ∧ astOk V2.ast ∧ astOk a ∧ astOk b := fun a b e => by
                rw [e] at ha
                exact ⟨(astOk_app ha).1, (astOk_app (astOk_app ha).2).1, (astOk_app (astOk_app (astOk_app ha).2).2).1, (astOk_app (astOk_app (astOk_app ha).2).2).2⟩
              have views : astOk V1.ast → astOk V2.ast → ViewR P ρ i.size V1 (g s) w (hOf (f s)) ∧ ViewR P ρ i.size V2 (g x) w (hOf (f x)) := fun a1 a2 => ⟨viewOf_R R.obj hz2 hV1 (hR s) a1, viewOf_R R.obj hz2 hV2 (hR x) a2⟩
              have bytes : ∀ n1 n2 : E, 0 ≤ n1.i → 0 ≤ n2.i → astOk (below .leq (plus' n1 n2) (.lit (140737488355328 / i.bytes : Nat))) → (n1.i.toNat + n2.i.toNat) * i.bytes ≤ 140737488355328 := fun n1 n2 g1 g2 hb => by
                have hb := below_ok hb
                rw [plus'_i, E.i_lit] at hb
                have hb : n1.i + n2.i ≤ ((140737488355328 / i.bytes : Nat) : Int) := of_decide_eq_true hb
                have h3 : n1.i.toNat + n2.i.toNat ≤ 140737488355328 / i.bytes := by
                  generalize 140737488355328 / i.bytes = D at hb ⊢
                  omega
                exact Nat.le_trans (Nat.mul_le_mul_right _ h3) (Nat.div_mul_le_self _ _)
              split at h
              · -- nothing is added
                rename_i a hm
                cases h
                have hn2 := modeOf_same hm
                obtain ⟨a1, a2, _, _⟩ := key a [] (by simp)
                obtain ⟨w1, w2⟩ := views a1 a2
                obtain ⟨oa, c1, xs, e1, q1, q1', q2, q3, q4, q5, q6, q7⟩ := w1.val
                obtain ⟨oa2, c2, ys, e2, p1, p1', p2, p3, p4, p5, p6, p7⟩ := w2.val
                have hy : ys = [] := by
                  rw [hn2] at p2
                  exact List.eq_nil_of_length_eq_zero (by simpa using p2)
                have hnew := p6 w (fun _ _ _ _ => rfl)
                rw [hn2] at hnew
                rw [e2, hn2] at hnew
                rw [hy] at hnew
                have run := run_append_nothing (P := P) (ty := o.type) (w := w) (base := oa) (sLen := V1.n.i.toNat) (sCap := c1) hu hi (x := .slice oa2 0 c2) (fun _ => by simp [Builtin.lenOf]) hnew q1
                refine ⟨g s, w, ρ, ⟨Agree.refl _ _, rfl⟩, Nat.le_refl _, R, hR s, .inl ?_, fun _ _ _ => rfl⟩
                rw [ex, e1, e2, hn2]
                simp only [Sem.run_bind]
                rw [show (0 : Int).toNat = 0 from rfl, run]
                rfl
              · -- a new block
                rename_i a hm
                cases h
                obtain ⟨a1, a2, a3, a4⟩ := key _ _ rfl
                obtain ⟨w1, w2⟩ := views a1 a2
                have hs := hR s
                obtain ⟨oa, c1, xs, e1, q1, q1', q2, q3, q4, q5, q6, q7⟩ := w1.val
                obtain ⟨oa2, c2, ys, e2, p1, p1', p2, p3, p4, p5, p6, p7⟩ := w2.val
                rw [e1] at hs
                have hlt := modeOf_grow hm a3 hs
                obtain ⟨v, w', ρ', h1, h2, h3, h4, h5⟩ := append_grow (ty := o.type) hu hi hzv hzl hz3 R w1.n0 w2.n0 q2 p2 q3 p3 q4 p4 q5 p5 (by rw [← e1]; exact q6 w.drew (fun _ _ _ _ => rfl)) (by rw [← e2]; exact p6 w.drew (fun _ _ _ _ => rfl)) hlt (bytes _ _ w1.n0 w2.n0 a4)
                refine ⟨v, w', ρ', h1, Nat.le_succ _, h2, h3, .inl ?_, fun b hb _ => h5 b hb⟩
                rw [ex, e1, e2]
                simp only [Sem.run_bind, h4]
                rfl
              · -- an own row
                rename_i a hd hm
                cases h
                obtain ⟨a1, a2, a3, a4⟩ := key _ _ rfl
                obtain ⟨w1, w2⟩ := views a1 a2
                have hs := hR s
                obtain ⟨oa, c1, xs, e1, q1, q1', q2, q3, q4, q5, q6, q7⟩ := w1.val
                obtain ⟨oa2, c2, ys, e2, p1, p1', p2, p3, p4, p5, p6, p7⟩ := w2.val
                obtain ⟨k, off, len, cap, ob, hsl, hf⟩ := modeOf_own hm
                have hhd := hfind_lt R hf
                rw [e1] at hs
                by_cases hroom : V1.n.i.toNat + V2.n.i.toNat ≤ c1
                · by_cases hc0 : c1 = 0
                  · have z1 : V1.n.i = 0 := by have := w1.n0; omega
                    have z2 : V2.n.i = 0 := by have := w2.n0; omega
                    have hy : ys = [] := by
                      rw [z2] at p2
                      exact List.eq_nil_of_length_eq_zero (by simpa using p2)
                    have hnew := p6 w (fun _ _ _ _ => rfl)
                    rw [z2, e2, z2, hy] at hnew
                    have run := run_append_nothing (P := P) (ty := o.type) (w := w) (base := oa) (sLen := 0) (sCap := c1) hu hi (x := .slice oa2 0 c2) (fun _ => by simp [Builtin.lenOf]) hnew (Nat.zero_le _)
                    obtain ⟨n1, n2⟩ := append_nothing (e := e) (oa := oa) R z1 z2 q2 p2 q4 p4 hc0
                    refine ⟨_, w, rset ρ nx none, ⟨Agree.rset ρ (Nat.le_refl _) _, rfl⟩, Nat.le_succ _, Rep.del_old (by omega) n1, n2, .inl ?_, fun _ _ _ => rfl⟩
                    rw [ex, e1, e2, z1, z2]
                    simp only [Sem.run_bind]
                    rw [show (0 : Int).toNat = 0 from rfl, run]
                    rfl
                  · rw [hsl] at hs hV1
                    simp only [SV.R] at hs
                    obtain ⟨_, _, op, oa', cc, hp, hsv, _, _, _, hadr⟩ := hs
                    injection hsv with hsv1 hsv2 hsv3
                    subst hsv1
                    subst hsv3
                    obtain ⟨p, rfl, rfl, hpn⟩ := hadr hc0
                    have hk : k = i.size ∧ OwnBlock w p := by
                      unfold viewOf at hV1
                      simp only [hf] at hV1
                      split at hV1
                      · rename_i hk hb _
                        refine ⟨Nat.eq_of_beq_eq_true hk, ?_⟩
                        cases hb
                        split at hV1
                        · rename_i hrow
                          exact asRow_own hrow (R.own _ _ _ hf hp).1
                        · cases hV1
                      · cases hV1
                    obtain ⟨hk, hown⟩ := hk
                    subst hk
                    obtain ⟨v, w', ρ', h1, h2, h3, h4, h5⟩ := append_in (ty := o.type) hu hi R hf hp hown w1.n0 w2.n0 q2 p2 q3 p3 q4 p4 q5 p5 (q7 _ rfl) (by rw [← e2]; exact p6 w (fun _ _ _ _ => rfl)) hroom q1' hpn
                    refine ⟨v, w', ρ', h1, Nat.le_succ _, h2, h3, .inl ?_, fun b hb hw => h5 b (fun e => hw hd p (by simp) hp e.symm)⟩
                    rw [ex, e1, e2]
                    simp only [Sem.run_bind, h4]
                    rfl
                · obtain ⟨v, w', ρ', h1, h2, h3, h4, h5⟩ := append_grow (ty := o.type) hu hi hzv hzl hz3 R w1.n0 w2.n0 q2 p2 q3 p3 q4 p4 q5 p5 (by rw [← e1]; exact q6 w.drew (fun _ _ _ _ => rfl)) (by rw [← e2]; exact p6 w.drew (fun _ _ _ _ => rfl)) (by have := w1.n0; have := w2.n0; omega) (bytes _ _ w1.n0 w2.n0 a4)
                  refine ⟨v, w', ρ', h1, Nat.le_succ _, Rep.del_old (by omega) h2, h3, .inl ?_, fun b hb _ => h5 b hb⟩
                  rw [ex, e1, e2]
                  simp only [Sem.run_bind, h4]
                  rfl
              · cases h
            · cases h
          · cases hz
        · cases h
      · cases h
    · cases h
  · cases h
end
end Go.Sx
/-
  The order of a region that draws.
-/
namespace Go.Sx
open Go

/-- every function, any depth; in a round, or in none -/
def FW (ro : Option Nat) : Fence := { Fence.wide with round := ro }
theorem FW_none : FW none = Fence.wide := rfl
theorem FW_inRound (ro : Option Nat) (l : Nat) : (FW ro).inRound l = FW (some l) := rfl
theorem FW_room (ro : Option Nat) (n : Nat) : (FW ro).room n := fun d h => by cases h

def isQo (o : Option Oper) : Bool := match o with
  | some o => isQ o.op
  | none => false
theorem isQ_noSelect {o : Oper} (h : isQ o.op = true) (cs : Array SelectCase) (b : Bool) : o.op ≠ .select cs b := fun e => by rw [e] at h; cases h
theorem isQ_noDefer {o : Oper} (h : isQ o.op = true) (c : Call) : o.op ≠ .defer c := fun e => by rw [e] at h; cases h

section
variable {P : Program} {ops : Array Oper} {Q : Exit → Act → World → Prop} {ro : Option Nat}

def YieldsW (P : Program) (ops : Array Oper) (o : Oper) (v : Value) (a : Act) (w : World) : Prop :=
  (Region.wanted o (yielded ops a.tmps) = true ∧ (execOp a.eval o).run P w = .ok (.value v) w) ∨ (Region.wanted o (yielded ops a.tmps) = false ∧ v = undef)

theorem YieldsW.of_put {oi oj : Oper} {u v : Value} {a : Act} {w : World} (hsj : isQ oj.op = true) (h : ∀ d, oi.dst = some d → d ∉ oj.looksAt ops) :
    YieldsW P ops oj u (a.put oi.dst v) w ↔ YieldsW P ops oj u a w := by
  unfold YieldsW
  rw [execOp_put oj (isQ_noSelect hsj) a oi.dst v h, wanted_put oj a oi.dst v h]

theorem wpIn_value {o : Oper} {a : Act} {w w' : World} {v : Value} {K : Act → World → Prop} (hd : ∀ c, o.op ≠ .defer c) (hr : (execOp a.eval o).run P w = .ok (.value v) w') (h : K (a.put o.dst v) w') : o.wpIn (FW ro) 0 P a w K Q := by
  refine ⟨fun _ _ => trivial, ?_⟩
  rw [Oper.semAt_eq _ _ _ hd, hr]
  exact h
theorem wpIn_skipped {o : Oper} {a : Act} {w w' : World} {K : Act → World → Prop} (hd : ∀ c, o.op ≠ .defer c) (hr : (execOp a.eval o).run P w = .ok .skip w') (h : K (a.put o.dst undef) w') : o.wpIn (FW ro) 0 P a w K Q := by
  refine ⟨fun _ _ => trivial, ?_⟩
  rw [Oper.semAt_eq _ _ _ hd, hr]
  exact h

theorem YieldsW.wpOpIn {i : Nat} {o : Oper} {v : Value} {a : Act} {w : World} {K : Act → World → Prop} (hi : ops[i]? = some o) (hq : isQ o.op = true) (hy : YieldsW P ops o v a w) (h : K (a.put o.dst v) w) :
    Go.wpOpIn (FW ro) 0 P ops Q i K a w := by
  unfold Go.wpOpIn
  simp only [hi]
  rcases hy with ⟨hw, hr⟩ | ⟨hw, rfl⟩
  · simp only [hw, if_true]
    exact wpIn_value (isQ_noDefer hq) hr h
  · simp only [hw]
    exact ⟨fun _ _ => trivial, h⟩

/-- In whatever world in which these blocks are as they are here, the operation yields v and turns nothing. -/
def YieldsB (P : Program) (ops : Array Oper) (o : Oper) (v : Value) (a : Act) (w : World) (b : List Nat) : Prop :=
  (Region.wanted o (yielded ops a.tmps) = true ∧ ∀ w', (∀ x ∈ b, w'.heap[x]? = w.heap[x]?) → (execOp a.eval o).run P w' = .ok (.value v) w') ∨ (Region.wanted o (yielded ops a.tmps) = false ∧ v = undef)
theorem YieldsB.here {o : Oper} {v : Value} {a : Act} {w : World} {b : List Nat} (h : YieldsB P ops o v a w b) : YieldsW P ops o v a w := by
  rcases h with ⟨h1, h2⟩ | h
  · exact .inl ⟨h1, h2 w fun _ _ => rfl⟩
  · exact .inr h
theorem YieldsB.on {o : Oper} {v : Value} {a : Act} {w w' : World} {b : List Nat} (h : YieldsB P ops o v a w b) (hw : ∀ x ∈ b, w'.heap[x]? = w.heap[x]?) : YieldsB P ops o v a w' b := by
  rcases h with ⟨h1, h2⟩ | h
  · exact .inl ⟨h1, fun w2 h3 => h2 w2 fun x hx => (h3 x hx).trans (hw x hx)⟩
  · exact .inr h
theorem YieldsB.of_put {oi oj : Oper} {u v : Value} {a : Act} {w : World} {b : List Nat} (hsj : isQ oj.op = true) (h : ∀ d, oi.dst = some d → d ∉ oj.looksAt ops) :
    YieldsB P ops oj u (a.put oi.dst v) w b ↔ YieldsB P ops oj u a w b := by
  unfold YieldsB
  rw [execOp_put oj (isQ_noSelect hsj) a oi.dst v h, wanted_put oj a oi.dst v h]

def upd (pins : Nat → List Nat) (i : Nat) (b : List Nat) : Nat → List Nat := fun k => if k = i then b else pins k
theorem upd_comm (pins : Nat → List Nat) {i j : Nat} (h : i ≠ j) (b c : List Nat) : upd (upd pins i b) j c = upd (upd pins j c) i b := by
  funext k
  unfold upd
  by_cases h1 : k = j <;> by_cases h2 : k = i <;> simp_all
/-- it leaves what those have read that it does not wait for -/
def Leaves1 (T : Nat → Nat) (ops : Array Oper) (i : Nat) (pins : Nat → List Nat) (w w' : World) : Prop :=
  ∀ o, ops[i]? = some o → isNew o.op = true → ∀ k, (T i).testBit k = false → ∀ x ∈ pins k, w'.heap[x]? = w.heap[x]?

/-- from here on, whatever comes up; what is quiet yields, and turns nothing -/
def anyS (ro : Option Nat) (P : Program) (ops : Array Oper) (Q : Exit → Act → World → Prop) (T : Nat → Nat) : Nat → Array Bool → (Nat → List Nat) → Act → World → Prop
  | 0, listed, _, a, w => Region.ready .any ops listed = [] ∧ Q .normal a w
  | fuel + 1, listed, pins, a, w =>
    (Region.ready .any ops listed = [] → Q .normal a w) ∧
    ∀ i ∈ Region.ready .any ops listed, if isQo ops[i]? = true then ∃ o v b, ops[i]? = some o ∧ YieldsB P ops o v a w b ∧ (isPure o.op = true → b = []) ∧ anyS ro P ops Q T fuel (listed.setIfInBounds i true) (upd pins i b) (a.put o.dst v) w
      else wpOpIn (FW ro) 0 P ops Q i (fun a' w' => Leaves1 T ops i pins w w' ∧ anyS ro P ops Q T fuel (listed.setIfInBounds i true) pins a' w') a w

theorem anyS_sound {T : Nat → Nat} : ∀ (fuel : Nat) (listed : Array Bool) (pins : Nat → List Nat) (a : Act) (w : World), anyS ro P ops Q T fuel listed pins a w → wpAnyIn (FW ro) 0 P .any ops Q fuel listed a w
  | 0, _, _, _, _, h => h
  | fuel + 1, listed, pins, a, w, h => ⟨h.1, fun i hi => by
    have h2 := h.2 i hi
    split at h2
    · rename_i hq
      obtain ⟨o, v, b, ho, hy, _, hn⟩ := h2
      rw [ho] at hq
      exact hy.here.wpOpIn ho hq (anyS_sound fuel _ _ _ _ hn)
    · exact wpOpIn_mono (fun a' w' h' => anyS_sound fuel _ _ _ _ h'.2) h2⟩

theorem noSel_select {o : Oper} (h : noSel o.op = true) (cs : Array SelectCase) (b : Bool) : o.op ≠ .select cs b := fun e => by rw [e] at h; cases h
theorem noSel_defer {o : Oper} (h : noSel o.op = true) (c : Call) : o.op ≠ .defer c := fun e => by rw [e] at h; cases h

/-- one operation comes up ahead of another, that yields the same -/
theorem YieldsB.behind {j : Nat} {oi oj : Oper} {v : Value} {w0 : World} {b : List Nat} (hj : ops[j]? = some oj) (hap : oi.apart ops oj = true) (hqi : isQ oi.op = true) (hnj : noSel oj.op = true)
    (hQ : ∀ c a w, ¬ Q (.panic c) a w) {K : Act → World → Prop} {a : Act} {w : World} (hy : YieldsB P ops oi v a w0 b) (h : wpOpIn (FW ro) 0 P ops Q j K (a.put oi.dst v) w) :
    wpOpIn (FW ro) 0 P ops Q j (fun a' w' => YieldsB P ops oi v a' w0 b ∧ K (a'.put oi.dst v) w') a w := by
  obtain ⟨h1, h2, h3⟩ := Oper.apart_spec hap
  have keep : ∀ (a : Act), YieldsB P ops oi v a w0 b → ∀ u, YieldsB P ops oi v (a.put oj.dst u) w0 b := fun a hy u => (YieldsB.of_put hqi h3).2 hy
  unfold wpOpIn at h ⊢
  simp only [hj] at h ⊢
  rw [wanted_put oj a oi.dst v h1] at h
  split
  · rename_i hw
    simp only [hw, if_true] at h
    refine ⟨fun _ _ => trivial, ?_⟩
    have h := h.2
    rw [Oper.semAt_eq _ _ _ (noSel_defer hnj)] at h ⊢
    rw [execOp_put oj (noSel_select hnj) a oi.dst v h1] at h
    generalize (execOp a.eval oj).run P w = r at h
    cases r with
    | ok n w' =>
      cases n <;> simp only [Oper.uponIn] at h ⊢
      case value u => exact ⟨keep a hy u, by rw [← Act.put_comm a v u h2]; exact h⟩
      case skip => exact ⟨keep a hy _, by rw [← Act.put_comm a v undef h2]; exact h⟩
      case defer d =>
        refine ⟨(YieldsB.of_put (a := { a with defers := d :: a.defers }) hqi h3).2 hy, ?_⟩
        rw [← Act.put_comm _ v undef h2, ← Act.put_defers]
        exact h
      case enter f args =>
        refine ⟨h.1, CallsIn.mono h.2 fun e w'' he => ?_⟩
        cases e with
        | returned u => exact ⟨keep a hy u, by rw [← Act.put_comm a v u h2]; exact he⟩
        | panicked c => exact absurd he (hQ _ _ _)
        | outgrown => exact he
      case row row args => exact ⟨h.1, RowsIn.mono h.2 fun u w'' he => ⟨keep a hy u, by rw [← Act.put_comm a v u h2]; exact he⟩⟩
      case round l f tmps asg bd =>
        refine ⟨h.1, RoundIn.mono h.2 fun e w'' he => ?_⟩
        cases e with
        | returned u => exact ⟨keep a hy u, by rw [← Act.put_comm a v u h2]; exact he⟩
        | panicked c => exact absurd he (hQ _ _ _)
        | outgrown => exact he
    | halt x w' =>
      cases x <;> simp only [Oper.uponIn] at h ⊢
      case panic u => exact absurd h (hQ _ _ _)
  · rename_i hw
    simp only [hw] at h
    exact ⟨fun _ _ => trivial, keep a hy _, by rw [← Act.put_comm a v undef h2]; exact h.2⟩

/-- what is listed has what it waits for listed -/
def Closed (ops : Array Oper) (listed : Array Bool) : Prop := ∀ k o, ops[k]? = some o → listed.getD k false = true → ∀ e ∈ o.after, Region.binds .any e = true → listed.getD e.on false = true
/-- 'T j' has the numbers of those that are listed when j may be -/
def DepsOk (ops : Array Oper) (T : Nat → Nat) : Prop := ∀ listed, Closed ops listed → ∀ j o, ops[j]? = some o → (∀ e ∈ o.after, Region.binds .any e = true → listed.getD e.on false = true) → ∀ k, (T j).testBit k = true → listed.getD k false = true

theorem Closed.set {listed : Array Bool} (hc : Closed ops listed) {j : Nat} (hj : j ∈ Region.ready .any ops listed) : Closed ops (listed.setIfInBounds j true) := by
  intro k o ho hk e he hb
  obtain ⟨_, oj, hoj, hall⟩ := mem_ready.1 hj
  by_cases hkj : k = j
  · subst hkj
    rw [ho] at hoj
    cases hoj
    exact getD_set_true (hall e he hb)
  · rw [getD_set_ne false (Ne.symm hkj)] at hk
    exact getD_set_true (hc k o ho hk e he hb)

theorem mayAhead_spec {oi o : Op} (h : mayAhead oi o = true) : isQ o = true ∨ (isQ o = false ∧ noSel o = true ∧ (isPure oi = true ∨ isNew o = true)) := by
  unfold mayAhead at h
  split at h
  · rename_i h1; exact .inl h1
  · rename_i h1
    split at h
    · rename_i h2 h3; exact .inr ⟨h1, h2, .inl h3⟩
    · rename_i h2 h3 _; exact .inr ⟨h1, h2, .inr h3⟩
    · cases h

theorem anyS_first {T : Nat → Nat} (hT : DepsOk ops T) (hQ : ∀ c a w, ¬ Q (.panic c) a w) {i : Nat} {oi : Oper} {v : Value} (hi : ops[i]? = some oi) (hq : isQ oi.op = true) {b : List Nat} (hp : isPure oi.op = true → b = []) :
    ∀ (fuel : Nat) (listed : Array Bool) (pins : Nat → List Nat) (a : Act) (w : World), Closed ops listed → i ∈ Region.ready .any ops listed → YieldsB P ops oi v a w b →
      (∀ j oj, ops[j]? = some oj → j ≠ i → listed.getD j true = false → (T j).testBit i = false → oi.apart ops oj = true ∧ mayAhead oi.op oj.op = true) →
      (∀ j, pins j ≠ [] → j ≠ i) →
      anyS ro P ops Q T fuel (listed.setIfInBounds i true) (upd pins i b) (a.put oi.dst v) w → anyS ro P ops Q T (fuel + 1) listed pins a w := by
  have isq : isQo ops[i]? = true := by rw [hi]; exact hq
  intro fuel
  induction fuel with
  | zero =>
    intro listed pins a w hc hr hy hfree hpn H
    refine ⟨fun h => (by rw [h] at hr; cases hr), fun j hj => ?_⟩
    by_cases hji : j = i
    · subst hji
      rw [if_pos isq]
      exact ⟨oi, v, b, hi, hy, hp, H⟩
    · have := ready_mono hj hji
      rw [H.1] at this
      cases this
  | succ fuel ih =>
    intro listed pins a w hc hr hy hfree hpn H
    refine ⟨fun h => (by rw [h] at hr; cases hr), fun j hj => ?_⟩
    by_cases hji : j = i
    · subst hji
      rw [if_pos isq]
      exact ⟨oi, v, b, hi, hy, hp, H⟩
    · obtain ⟨hjun, oj, hoj, hall⟩ := mem_ready.1 hj
      have hbit : (T j).testBit i = false := by
        cases hb : (T j).testBit i with
        | false => rfl
        | true =>
          have h1 := hT listed hc j oj hoj hall i hb
          have h2 := (mem_ready.1 hr).1
          rw [Array.getD_eq_getD_getElem?] at h1 h2
          cases hx : listed[i]? with
          | none => rw [hx] at h1; simp at h1
          | some x => rw [hx] at h1 h2; simp at h1 h2; rw [h1] at h2; cases h2
      obtain ⟨hap, hor⟩ := hfree j oj hoj hji hjun hbit
      obtain ⟨p1, p2, p3⟩ := Oper.apart_spec hap
      have h1 := H.2 j (ready_mono hj hji)
      have hfree' : ∀ k ok, ops[k]? = some ok → k ≠ i → (listed.setIfInBounds j true).getD k true = false → (T k).testBit i = false → oi.apart ops ok = true ∧ mayAhead oi.op ok.op = true := fun k ok hk hki hun hb => by
        refine hfree k ok hk hki ?_ hb
        by_cases hjk : j = k
        · subst hjk; exact hjun
        · rw [getD_set_ne true hjk] at hun; exact hun
      rcases mayAhead_spec hor with hqj | ⟨hqj, hns, hpn'⟩
      · have isqj : isQo ops[j]? = true := by rw [hoj]; exact hqj
        rw [if_pos isqj] at h1 ⊢
        obtain ⟨oj', u, c, hoj', hyj, hpj, hn⟩ := h1
        rw [hoj] at hoj'
        cases hoj'
        refine ⟨oj, u, c, hoj, (YieldsB.of_put hqj p1).1 hyj, hpj, ih _ _ _ _ (hc.set hj) (ready_mono hr (Ne.symm hji)) ((YieldsB.of_put hq p3).2 hy) hfree' (fun k hk => ?_) ?_⟩
        · unfold upd at hk
          split at hk
          · rename_i e; rw [e]; exact hji
          · exact hpn k hk
        · rw [← Act.put_comm a v u p2, Array.setIfInBounds_comm _ _ hji, upd_comm pins hji c b]
          exact hn
      · have isqj : isQo ops[j]? = false := by rw [hoj]; exact hqj
        rw [if_neg (by rw [isqj]; simp)] at h1 ⊢
        refine wpOpIn_mono (fun a' w' h' => ?_) (hy.behind hoj hap hq hns hQ h1)
        obtain ⟨hy', hl, hn⟩ := h'
        refine ⟨fun o ho hnew k hk x hx => hl o ho hnew k hk x ?_, ih _ _ _ _ (hc.set hj) (ready_mono hr (Ne.symm hji)) (hy'.on fun x hx => ?_) hfree' hpn ?_⟩
        · have : k ≠ i := hpn k fun e => by rw [e] at hx; cases hx
          simp only [upd, if_neg this]
          exact hx
        · rcases hpn' with h2 | h2
          · rw [hp h2] at hx; cases hx
          · exact hl oj hoj h2 i hbit x (by simp only [upd, if_pos]; exact hx)
        · rw [Array.setIfInBounds_comm _ _ hji]
          exact hn

theorem depE_bit {tbl : List Nat} {k : Nat} : ∀ (l : List Edge) (m : Nat), (depE tbl m l).testBit k = true → m.testBit k = true ∨ ∃ e ∈ l, Region.binds .any e = true ∧ (k = e.on ∨ (tbl.getD e.on 0).testBit k = true)
  | [], m, h => .inl h
  | e :: r, m, h => by
    simp only [depE] at h
    split at h
    · rename_i hb
      rcases depE_bit r _ h with h1 | ⟨e', he', h2⟩
      · rw [Nat.testBit_or, Nat.testBit_or, Bool.or_eq_true, Bool.or_eq_true] at h1
        rcases h1 with (h1 | h1) | h1
        · exact .inl h1
        · refine .inr ⟨e, List.mem_cons_self, hb, .inl ?_⟩
          rw [Nat.one_shiftLeft, Nat.testBit_two_pow] at h1
          exact (of_decide_eq_true h1).symm
        · exact .inr ⟨e, List.mem_cons_self, hb, .inr h1⟩
      · exact .inr ⟨e', List.mem_cons_of_mem _ he', h2⟩
    · rcases depE_bit r _ h with h1 | ⟨e', he', h2⟩
      · exact .inl h1
      · exact .inr ⟨e', List.mem_cons_of_mem _ he', h2⟩

theorem depT_ok : ∀ (r pre : List Oper) (tbl : List Nat), tbl.length = pre.length → DepsOk (pre ++ r).toArray (fun j => tbl.getD j 0) → DepsOk (pre ++ r).toArray (fun j => (depT r tbl).getD j 0)
  | [], pre, tbl, _, h => h
  | o :: r, pre, tbl, hl, h => by
    have hl' : (tbl ++ [depE tbl 0 o.after.toList]).length = (pre ++ [o]).length := by simp [hl]
    have := depT_ok r (pre ++ [o]) (tbl ++ [depE tbl 0 o.after.toList]) hl'
    rw [List.append_assoc, List.singleton_append] at this
    refine this fun listed hc j oj hoj hall k hk => ?_
    rcases Nat.lt_trichotomy j tbl.length with hj | hj | hj
    · simp only [List.getD_eq_getElem?_getD, List.getElem?_append_left hj] at hk
      exact h listed hc j oj hoj hall k (by simpa [List.getD_eq_getElem?_getD] using hk)
    · subst hj
      simp only [List.getD_eq_getElem?_getD, List.getElem?_append_right (Nat.le_refl _), Nat.sub_self, List.getElem?_cons_zero, Option.getD_some] at hk
      have hoj' : oj = o := by
        rw [hl] at hoj
        simpa using hoj.symm
      subst hoj'
      rcases depE_bit _ _ hk with h0 | ⟨e, he, hb, h1⟩
      · simp at h0
      · have hlist := hall e (by simpa using he) hb
        rcases h1 with rfl | h1
        · exact hlist
        · cases hoe : (pre ++ oj :: r).toArray[e.on]? with
          | none =>
            rcases Nat.lt_or_ge e.on tbl.length with hlt | hge
            · rw [List.getElem?_toArray, List.getElem?_eq_none_iff] at hoe
              simp at hoe
              omega
            · rw [List.getD_eq_getElem?_getD, List.getElem?_eq_none hge] at h1
              simp at h1
          | some oe => exact h listed hc e.on oe hoe (hc e.on oe hoe hlist) k h1
    · simp only [List.getD_eq_getElem?_getD] at hk
      rw [List.getElem?_eq_none (by simp; omega)] at hk
      simp at hk

/-! ### plans -/
def maskA (m n : Nat) : Array Bool := Array.ofFn (n := n) fun j => m.testBit j.1
theorem maskA_getD (m n j : Nat) (d : Bool) : (maskA m n).getD j d = if j < n then m.testBit j else d := by
  rw [Array.getD_eq_getD_getElem?]
  unfold maskA
  rw [Array.getElem?_ofFn]
  split <;> simp
theorem maskA_set {m n i : Nat} : (maskA m n).setIfInBounds i true = maskA (m ||| (1 <<< i)) n := by
  apply Array.ext_getElem?
  intro j
  rw [Array.getElem?_setIfInBounds]
  unfold maskA
  have hb : ∀ j, (m ||| (1 <<< i)).testBit j = (m.testBit j || decide (i = j)) := fun j => by
    rw [Nat.testBit_or, Nat.one_shiftLeft, Nat.testBit_two_pow]
  by_cases e : i = j
  · subst e
    rw [if_pos rfl, Array.getElem?_ofFn]
    simp only [Array.size_ofFn, hb]
    split <;> simp
  · rw [if_neg e, Array.getElem?_ofFn, Array.getElem?_ofFn]
    simp only [hb, e, decide_false, Bool.or_false]
theorem maskA_zero (n : Nat) : maskA 0 n = Array.replicate n false := by
  apply Array.ext
  · simp [maskA]
  · intro j h1 h2; simp [maskA]

theorem readyM_true {m : Nat} : ∀ {l : List Edge}, readyM m l = true → ∀ e ∈ l, Region.binds .any e = true → m.testBit e.on = true
  | [], _, e, he, _ => by cases he
  | x :: r, h, e, he, hb => by
    simp only [readyM] at h
    split at h
    · cases h
    · rename_i hn
      rcases List.mem_cons.1 he with rfl | he
      · cases ht : m.testBit e.on with
        | true => rfl
        | false => exact (hn hb ht).elim
      · exact readyM_true h e he hb
theorem readyM_of {m : Nat} : ∀ {l : List Edge}, (∀ e ∈ l, Region.binds .any e = true → m.testBit e.on = true) → readyM m l = true
  | [], _ => rfl
  | x :: r, h => by
    simp only [readyM]
    split
    · rename_i h1 h2
      have := h x List.mem_cons_self h1
      rw [h2] at this
      cases this
    · exact readyM_of fun e he => h e (List.mem_cons_of_mem _ he)
theorem upM_mem {m : Nat} : ∀ {l : List Oper} {i q : Nat} {o : Oper}, l[q]? = some o → m.testBit (i + q) = false → readyM m o.after.toList = true → i + q ∈ upM m l i
  | [], _, _, _, h, _, _ => by simp at h
  | x :: r, i, q, o, h, hm, hr => by
    cases q with
    | zero =>
      simp at h
      subst h
      simp only [upM, Nat.add_zero] at hm ⊢
      rw [hm, hr]
      exact List.mem_cons_self
    | succ q =>
      have := upM_mem (l := r) (i := i + 1) (q := q) (by simpa using h) (by rw [show i + 1 + q = i + (q + 1) by omega]; exact hm) hr
      rw [show i + 1 + q = i + (q + 1) by omega] at this
      simp only [upM]
      split
      · exact List.mem_cons_of_mem _ this
      · exact this
theorem freeM_true {ops : Array Oper} {oi : Oper} {i m : Nat} : ∀ {r : List Oper} {ts : List Nat} {j : Nat}, freeM ops oi i m r ts j = true → ∀ q oj, r[q]? = some oj → (ts.getD q 0).testBit i = false → m.testBit (j + q) = false → j + q ≠ i →
    oi.apart ops oj = true ∧ mayAhead oi.op oj.op = true
  | [], _, _, _, q, oj, h, _, _, _ => by simp at h
  | o :: r, [], _, h, _, _, _, _, _, _ => by simp [freeM] at h
  | o :: r, t :: ts, j, h, q, oj, hq, hb, hm, hne => by
    cases q with
    | zero =>
      simp at hq hb
      subst hq
      have hij : Nat.beq i j = false := by rw [nbeq]; exact decide_eq_false (fun e => hne (by omega))
      rw [Nat.add_zero] at hm
      simp only [freeM, hb, hm, hij] at h
      split at h
      · rename_i h1 h2; exact ⟨h1, h2⟩
      · cases h
    | succ q =>
      have hq' : r[q]? = some oj := by simpa using hq
      have hb' : (ts.getD q 0).testBit i = false := by simpa using hb
      have hm' : m.testBit (j + 1 + q) = false := by rw [show j + 1 + q = j + (q + 1) by omega]; exact hm
      have hne' : j + 1 + q ≠ i := by omega
      simp only [freeM] at h
      split at h
      · exact freeM_true h q oj hq' hb' hm' hne'
      · exact freeM_true h q oj hq' hb' hm' hne'
      · exact freeM_true h q oj hq' hb' hm' hne'
      · split at h
        · exact freeM_true h q oj hq' hb' hm' hne'
        · cases h

theorem isPure_isQ {o : Op} (h : isPure o = true) : isQ o = true := by
  unfold isPure at h
  split at h
  · cases h
  · exact h

theorem mem_upM {m : Nat} {j : Nat} (hj : j ∈ Region.ready .any ops (maskA m ops.size)) : j ∈ upM m ops.toList 0 := by
  obtain ⟨hun, o, ho, hall⟩ := mem_ready.1 hj
  have hjl : j < ops.size := (Array.getElem?_eq_some_iff.1 ho).1
  rw [maskA_getD, if_pos hjl] at hun
  have := upM_mem (m := m) (l := ops.toList) (i := 0) (q := j) (o := o) (by simpa using ho) (by rw [Nat.zero_add]; exact hun) (readyM_of fun e he hb => by
    have h1 := hall e (by simpa using he) hb
    rw [maskA_getD] at h1
    split at h1
    · exact h1
    · cases h1)
  rwa [Nat.zero_add] at this
end

/-- how a plan is walked: 'Step i pins K': the operation i, then K -/
def planRun (Step : Nat → (Nat → List Nat) → ((Nat → List Nat) → Act → World → Prop) → Act → World → Prop) (Fin : Act → World → Prop) : Plan → (Nat → List Nat) → Act → World → Prop
  | .done, _, a, w => Fin a w
  | .take i r, pins, a, w => Step i pins (planRun Step Fin r) a w
  | .alt i p q, pins, a, w => Step i pins (planRun Step Fin p) a w ∧ planRun Step Fin q pins a w
  | .stop, _, _, _ => True

section
variable {P : Program} {ops : Array Oper} {Q : Exit → Act → World → Prop} {ro : Option Nat}
/-- an operation: quiet, and yielding; or any other -/
def StepP (dr : Bool) (ro : Option Nat) (P : Program) (ops : Array Oper) (Q : Exit → Act → World → Prop) (T : Nat → Nat) (i : Nat) (pins : Nat → List Nat) (K : (Nat → List Nat) → Act → World → Prop) (a : Act) (w : World) : Prop :=
  ∃ o, ops[i]? = some o ∧ ((isQ o.op = true ∧ ∃ v b, YieldsB P ops o v a w b ∧ (isPure o.op = true → b = []) ∧ K (upd pins i b) (a.put o.dst v) w) ∨ (isQ o.op = false ∧ wpOpIn (FW ro) 0 P ops Q i (fun a' w' => (dr = true → Leaves1 T ops i pins w w') ∧ K pins a' w') a w))

theorem plan_sound (hQ : ∀ c a w, ¬ Q (.panic c) a w) : ∀ (p : Plan) (head : Bool) (k m : Nat) (pins : Nat → List Nat) (a : Act) (w : World), planOk ops (depT ops.toList []) p head k m = true → Closed ops (maskA m ops.size) → (∀ j, m.testBit j = true → j < ops.size) → (∀ j, pins j ≠ [] → m.testBit j = true) →
    planRun (StepP true ro P ops Q (fun j => (depT ops.toList []).getD j 0)) (Q .normal) p pins a w →
    (head = true → anyS ro P ops Q (fun j => (depT ops.toList []).getD j 0) k (maskA m ops.size) pins a w) ∧
    (head = false → ∀ j k', k = k' + 1 → j ∈ Region.ready .any ops (maskA m ops.size) → chainHas p j = true →
      if isQo ops[j]? = true then ∃ o v b, ops[j]? = some o ∧ YieldsB P ops o v a w b ∧ (isPure o.op = true → b = []) ∧ anyS ro P ops Q (fun j => (depT ops.toList []).getD j 0) k' ((maskA m ops.size).setIfInBounds j true) (upd pins j b) (a.put o.dst v) w
      else wpOpIn (FW ro) 0 P ops Q j (fun a' w' => Leaves1 (fun j => (depT ops.toList []).getD j 0) ops j pins w w' ∧ anyS ro P ops Q (fun j => (depT ops.toList []).getD j 0) k' ((maskA m ops.size).setIfInBounds j true) pins a' w') a w) := by
  have hT : DepsOk ops (fun j => (depT ops.toList []).getD j 0) := by
    have := depT_ok (ops.toList) [] [] rfl (fun listed hc j o _ _ k hk => by simp at hk)
    simpa using this
  have rdy : ∀ {i m : Nat} {o : Oper}, ops[i]? = some o → m.testBit i = false → readyM m o.after.toList = true → (∀ j, m.testBit j = true → j < ops.size) → i ∈ Region.ready .any ops (maskA m ops.size) := fun {i m o} ho hm hr hlt => by
    have hil : i < ops.size := (Array.getElem?_eq_some_iff.1 ho).1
    refine mem_ready.2 ⟨by rw [maskA_getD, if_pos hil]; exact hm, o, ho, fun e he hb => ?_⟩
    have := readyM_true hr e (by simpa using he) hb
    rw [maskA_getD, if_pos (hlt _ this)]
    exact this
  have orb : ∀ (i m j : Nat), (m ||| (1 <<< i)).testBit j = (m.testBit j || decide (i = j)) := fun i m j => by
    rw [Nat.testBit_or, Nat.one_shiftLeft, Nat.testBit_two_pow]
  have bits : ∀ {i m : Nat} {o : Oper}, ops[i]? = some o → (∀ j, m.testBit j = true → j < ops.size) → ∀ j, (m ||| (1 <<< i)).testBit j = true → j < ops.size := fun {i m o} ho hm j hj => by
    rw [orb, Bool.or_eq_true] at hj
    rcases hj with hj | hj
    · exact hm j hj
    · have := of_decide_eq_true hj
      subst this
      exact (Array.getElem?_eq_some_iff.1 ho).1
  have pinb : ∀ {i m : Nat} {pins : Nat → List Nat} {b : List Nat}, (∀ j, pins j ≠ [] → m.testBit j = true) → ∀ j, upd pins i b j ≠ [] → (m ||| (1 <<< i)).testBit j = true := fun {i m pins b} h j hj => by
    rw [orb, Bool.or_eq_true]
    unfold upd at hj
    split at hj
    · rename_i e; exact .inr (decide_eq_true e.symm)
    · exact .inl (h j hj)
  intro p
  induction p with
  | done =>
    intro head k m pins a w hp hc hb hpn hr
    cases head with
    | false => simp [planOk] at hp
    | true =>
      refine ⟨fun _ => ?_, fun h => by cases h⟩
      have hup : upM m ops.toList 0 = [] := by
        simp only [planOk] at hp
        split at hp
        · assumption
        · cases hp
      have hno : Region.ready .any ops (maskA m ops.size) = [] := by
        cases hrd : Region.ready .any ops (maskA m ops.size) with
        | nil => rfl
        | cons j r =>
          have hj : j ∈ Region.ready .any ops (maskA m ops.size) := by rw [hrd]; exact List.mem_cons_self
          have := mem_upM hj
          rw [hup] at this
          cases this
      cases k with
      | zero => exact ⟨hno, hr⟩
      | succ k => exact ⟨fun _ => hr, fun i hi => by rw [hno] at hi; cases hi⟩
  | take i r ih =>
    intro head k m pins a w hp hc hb hpn hr
    simp only [planOk] at hp
    split at hp
    · rename_i k o ho
      refine ⟨fun _ => ?_, fun h => by cases h⟩
      split at hp
      · rename_i h1 h2 h3 h4
        obtain ⟨o', ho', hor⟩ := hr
        rw [ho] at ho'
        cases ho'
        rcases hor with ⟨_, v, b, hy, hpure, hK⟩ | ⟨hf, _⟩
        · have hrd := rdy ho h1 h3 hb
          refine anyS_first hT hQ ho h2 hpure _ _ _ _ _ hc hrd hy (fun j oj hoj hne hun hbit => ?_) (fun j hj e => ?_) ?_
          · have hjl : j < ops.size := (Array.getElem?_eq_some_iff.1 hoj).1
            rw [maskA_getD, if_pos hjl] at hun
            exact freeM_true h4 j oj (by simpa using hoj) (by simpa using hbit) (by rw [Nat.zero_add]; exact hun) (by omega)
          · have := hpn j hj
            rw [e, h1] at this
            cases this
          · rw [maskA_set]
            exact (ih true k _ _ _ w hp (by rw [← maskA_set]; exact hc.set hrd) (bits ho hb) (pinb hpn) hK).1 rfl
        · rw [h2] at hf; cases hf
      · cases hp
    · cases hp
  | alt i p q ihp ihq =>
    intro head k m pins a w hp hc hb hpn hr
    simp only [planOk] at hp
    split at hp
    · rename_i k o hall ho
      split at hp
      · rename_i h1 h2 h3
        have hrd := rdy ho h1 h2 hb
        have chain : ∀ j, j ∈ Region.ready .any ops (maskA m ops.size) → chainHas (.alt i p q) j = true →
            if isQo ops[j]? = true then ∃ o v b, ops[j]? = some o ∧ YieldsB P ops o v a w b ∧ (isPure o.op = true → b = []) ∧ anyS ro P ops Q (fun j => (depT ops.toList []).getD j 0) k ((maskA m ops.size).setIfInBounds j true) (upd pins j b) (a.put o.dst v) w
            else wpOpIn (FW ro) 0 P ops Q j (fun a' w' => Leaves1 (fun j => (depT ops.toList []).getD j 0) ops j pins w w' ∧ anyS ro P ops Q (fun j => (depT ops.toList []).getD j 0) k ((maskA m ops.size).setIfInBounds j true) pins a' w') a w := fun j hj hch => by
          simp only [chainHas] at hch
          split at hch
          · rename_i e
            have e := Nat.eq_of_beq_eq_true e
            subst e
            have next : ∀ pins' a' w', (∀ j, pins' j ≠ [] → (m ||| (1 <<< i)).testBit j = true) → planRun (StepP true ro P ops Q (fun j => (depT ops.toList []).getD j 0)) (Q .normal) p pins' a' w' → anyS ro P ops Q (fun j => (depT ops.toList []).getD j 0) k ((maskA m ops.size).setIfInBounds i true) pins' a' w' := fun pins' a' w' hpn' h' => by
              rw [maskA_set]
              exact (ihp true k _ pins' a' w' h3 (by rw [← maskA_set]; exact hc.set hrd) (bits ho hb) hpn' h').1 rfl
            obtain ⟨o', ho', hor⟩ := hr.1
            rw [ho] at ho'
            cases ho'
            rcases hor with ⟨hq, v, b, hy, hpure, hK⟩ | ⟨hf, hwp⟩
            · rw [if_pos (by rw [ho]; exact hq)]
              exact ⟨o, v, b, ho, hy, hpure, next _ _ _ (pinb hpn) hK⟩
            · rw [if_neg (by rw [ho]; simp [isQo, hf])]
              exact wpOpIn_mono (fun a' w' h' => ⟨h'.1 rfl, next _ _ _ (fun j hj => by rw [orb, hpn j hj]; rfl) h'.2⟩) hwp
          · exact (ihq false (k + 1) m pins a w hp hc hb hpn hr.2).2 rfl j k rfl hj hch
        refine ⟨fun hh => ?_, fun hh j k' hk' => ?_⟩
        · subst hh
          simp only at hall
          refine ⟨fun h0 => (by rw [h0] at hrd; cases hrd), fun j hj => chain j hj ?_⟩
          exact List.all_eq_true.1 hall j (mem_upM hj)
        · cases hk'
          exact chain j
      · cases hp
    · cases hp
  | stop =>
    intro head k m pins a w hp hc hb hpn hr
    cases head with
    | true => simp [planOk] at hp
    | false => exact ⟨(fun h => by cases h), (fun _ j k' _ _ hch => by cases hch)⟩

def Calm (Q : Exit → Act → World → Prop) : Exit → Act → World → Prop
  | .panic _, _, _ => False
  | e, a, w => Q e a w

/-- What a walk over the operations of a region, one behind the other, may lean on. -/
structure Walks (dr : Bool) (ro : Option Nat) (P : Program) (ops : Array Oper) (Q : Exit → Act → World → Prop) (G : Nat → (Nat → List Nat) → Act → World → Prop) : Prop where
  step : ∀ i pins a w, i < ops.size → StepP dr ro P ops Q (fun j => (depT ops.toList []).getD j 0) i pins (G (i + 1)) a w → G i pins a w
  done : ∀ pins a w, Q .normal a w → G ops.size pins a w

theorem walks_lin : Walks true ro P ops Q (fun i => planRun (StepP true ro P ops Q (fun j => (depT ops.toList []).getD j 0)) (Q .normal) (linP (ops.toList.drop i) i)) := by
  refine ⟨fun i pins a w hi h => ?_, fun pins a w h => ?_⟩
  · have : ops.toList.drop i = ops.toList[i]'(by simpa using hi) :: ops.toList.drop (i + 1) := List.drop_eq_getElem_cons (by simpa using hi)
    rw [this]
    exact h
  · have : ops.toList.drop ops.size = [] := List.drop_eq_nil_of_le (by simp)
    rw [this]
    exact h
theorem walks_text : Walks false ro P ops Q (fun i _ a w => wpOpsIn (FW ro) 0 P ops Q (List.range' i (ops.size - i)) a w) := by
  refine ⟨fun i pins a w hi h => ?_, fun pins a w h => ?_⟩
  · have e1 : ops.size - i = (ops.size - (i + 1)) + 1 := by omega
    rw [e1, List.range'_succ, wpOpsIn_cons]
    obtain ⟨o, ho, ⟨hq, v, b, hy, _, hn⟩ | ⟨hq, hn⟩⟩ := h
    · exact hy.here.wpOpIn ho hq hn
    · exact wpOpIn_mono (fun a' w' h' => h'.2) hn
  · simp only [Nat.sub_self, List.range'_zero, wpOpsIn]
    exact h

/-- a region, from its walk -/
theorem region_of_walk {id : Nat} {dr : Bool} {a : Act} {w : World} (hm : dr = true → P.follows .mixedOrders = true ∧ planOk ops (depT ops.toList []) (linP ops.toList 0) true ops.size 0 = true)
    (h : ∀ G, Walks dr ro P ops (Calm Q) G → G 0 (fun _ => []) a (if dr = true then { w with drawn := w.drawn + 1 } else w)) : (Code.region id ops dr).wpIn (FW ro) 0 P Q a w := by
  refine wpIn_mono (Q := Calm Q) ?_ fun e a w he => by cases e <;> first | exact he | exact he.elim
  cases dr with
  | true =>
    obtain ⟨h1, h2⟩ := hm rfl
    refine wpIn_region_any h1 ?_
    have := anyS_sound _ _ _ _ _ ((plan_sound (fun _ _ _ h => h) _ true _ 0 _ a _ h2 (fun k o ho hk => by rw [maskA_getD] at hk; split at hk <;> simp at hk) (fun j hj => by simp at hj) (fun j hj => absurd rfl hj) (h _ walks_lin)).1 rfl)
    rw [maskA_zero] at this
    exact this
  | false =>
    refine wpIn_region ?_
    have := h _ walks_text
    simpa [List.range_eq_range'] using this
theorem region_of_plan {id : Nat} {a : Act} {w : World} (hm : P.follows .mixedOrders = true) (hok : planOk ops (depT ops.toList []) (planOf ops) true ops.size 0 = true)
    (h : planRun (StepP true ro P ops (Calm Q) (fun j => (depT ops.toList []).getD j 0)) (Calm Q .normal) (planOf ops) (fun _ => []) a { w with drawn := w.drawn + 1 }) : (Code.region id ops true).wpIn (FW ro) 0 P Q a w := by
  refine wpIn_mono (Q := Calm Q) ?_ fun e a w he => by cases e <;> first | exact he | exact he.elim
  refine wpIn_region_any hm ?_
  have := anyS_sound _ _ _ _ _ ((plan_sound (fun _ _ _ h => h) _ true _ 0 _ a _ hok (fun k o ho hk => by rw [maskA_getD] at hk; split at hk <;> simp at hk) (fun j hj => by simp at hj) (fun j hj => absurd rfl hj) h).1 rfl)
  rw [maskA_zero] at this
  exact this
end
end Go.Sx
/-
  clear, of a slice of a row.
-/
namespace Go.Sx
open Go
set_option linter.all false

/-- less is said of an object -/
theorem Rep.weak {C : Cx} {ρ : Rho} {H : Heap} {nx : Nat} {w : World} (R : Rep C ρ H nx w) {h : Nat} {own : Bool} {o o' : Ob} (hf : hfind H h = some (own, o)) (hr : ∀ op, o.R ρ w op → o'.R ρ w op) (ho : ∀ p, o.own w p → o'.own w p) :
    Rep C ρ (hset H h (own, o')) nx w := by
  have key : ∀ {i : Nat} {b : Bool} {x : Ob}, hfind (hset H h (own, o')) i = some (b, x) → ∃ y, hfind H i = some (b, y) ∧ (∀ op, y.R ρ w op → x.R ρ w op) ∧ (∀ p, y.own w p → x.own w p) := fun {i b x} hi => by
    rw [hfind_hset] at hi
    split at hi
    · rename_i e
      subst e
      cases hi
      exact ⟨o, hf, hr, ho⟩
    · exact ⟨x, hi, fun _ h => h, fun _ h => h⟩
  refine ⟨fun i b x hi => ?_, fun i x p hi hp => ?_, fun i x i' b' x' p p' hne hi hi' hp hp' => ?_, R.fresh, R.lt, R.size, R.frame, R.os, R.tape, R.output, ⟨R.dfr.nd, R.dfr.blk, R.dfr.own, fun b hb i own x p hi hp => ?_⟩⟩
  · obtain ⟨y, h1, h2, _⟩ := key hi
    obtain ⟨op, g1, g2⟩ := R.obj i b y h1
    exact ⟨op, g1, h2 op g2⟩
  · obtain ⟨y, h1, _, h3⟩ := key hi
    obtain ⟨g1, g2⟩ := R.own i y p h1 hp
    exact ⟨h3 p g1, g2⟩
  · obtain ⟨y, h1, _, _⟩ := key hi
    obtain ⟨y', h1', _, _⟩ := key hi'
    exact R.sep i y i' b' y' p p' hne h1 h1' hp hp'
  · obtain ⟨y, h1, _, _⟩ := key hi
    exact R.dfr.sep b hb i own y p h1 hp

/-- a shorter row -/
theorem row_short {ρ : Rho} {w : World} {t : TypeId} {k : Nat} {n m : E} {F : Nat → E → SV} {op : Option Pl} (h : Ob.R ρ w (.row t k n F) op) (h0 : 0 ≤ m.i) (hm : m.i ≤ n.i) : Ob.R ρ w (.row t k m F) op := by
  obtain ⟨⟨_, h2⟩, hc⟩ := h
  refine ⟨⟨h0, fun p hp => Nat.le_trans (Nat.mul_le_mul_right _ (by omega)) (h2 p hp)⟩, fun e j h1 h2 h3 => hc e j h1 (by omega) h3⟩

def clearN (P : Program) (H : Heap) (nx : Nat) (t : TypeId) (s : SV) : Option NR :=
  match P.underlying t with
  | some (.slice e) => match P.info? e with
    | some i => match zeroL i with
      | some z => match Nat.beq z.length i.size, z.all SV.one with
        | true, true => match s with
          | .sl h k off len _ => match Nat.beq k i.size, hfind H h, startOf k off with
            | true, some (true, .row t' k' n F), some st => match Nat.beq k' k with
              | true => some ⟨below .leq st n, .any, hset H h (true, .row t' k' st F), nx, [h]⟩
              | false => none
            | _, _, _ => none
          | _ => none
        | _, _ => none
      | none => none
    | none => none
  | _ => none

theorem zeroCells_length (z : Array Value) (n : Nat) : (Builtin.zeroCells z n).toList.length = n * z.size := by simp [Builtin.zeroCells]
theorem zeroCells_mem {z : Array Value} {n : Nat} {x : Value} (h : x ∈ (Builtin.zeroCells z n).toList) : x ∈ z.toList := by
  simp only [Builtin.zeroCells, Array.toList_map, Array.toList_range, List.mem_map, List.mem_range] at h
  obtain ⟨i, hi, rfl⟩ := h
  have hz : 0 < z.size := by
    rcases Nat.eq_zero_or_pos z.size with h0 | h0
    · rw [h0] at hi; omega
    · exact h0
  have hl : i % z.size < z.size := Nat.mod_lt _ hz
  rw [getElem!_pos z (i % z.size) hl]
  simp

theorem clearN_ok {P : Program} {C : Cx} {ρ : Rho} {H : Heap} {nx : Nat} {g : Operand → Value} {o : Oper} {f : Operand → SV} {r : NR} {w : World} {c : Call} {t : TypeId} {s : Operand} (hop : o.op = .call c) (hcl : c.callee = .builtin .clear) (ht : c.argTypes.toList = [t]) (hargs : c.args.toList = [s]) (hR : RO ρ f g) (R : Rep C ρ H nx w)
    (h : clearN P H nx t (f s) = some r) (ha : astOk r.ast) : NOk P C ρ nx g o r w := by
  have hv' : c.args.map g = #[g s] := by rw [← Array.toArray_toList (xs := c.args.map g), Array.toList_map, hargs]; rfl
  have ht' : c.argTypes = #[t] := by rw [← Array.toArray_toList (xs := c.argTypes), ht]
  have ex : execOp g o = (do pure (.value (← Builtin.clear_ #[t] o.type #[g s])) : Sem Next) := by rw [exec_builtin hop hcl, hv', ht']; rfl
  have hgs := hR s
  unfold clearN at h
  split at h
  · rename_i e hu
    split at h
    · rename_i i hi
      split at h
      · rename_i z hz
        split at h
        · rename_i hz1 hz2
          have hz1 := Nat.eq_of_beq_eq_true hz1
          unfold zeroL at hz
          split at hz
          · rename_i zv hzv
            cases hz
            have hzl : zv.cells.size = i.size := by simpa using hz1
            have hzone : ∀ x ∈ zv.cells.toList, x.oneCell' = true := RL_one (map_ofConst0_R ρ _) fun x hx => List.all_eq_true.1 hz2 x hx
            split at h
            · rename_i hd k off len cap hfs
              rw [hfs] at hgs
              split at h
              · rename_i t' k' n F st hk hf hst
                have hk := Nat.eq_of_beq_eq_true hk
                split at h
                · rename_i hk'
                  have hk' := Nat.eq_of_beq_eq_true hk'
                  subst hk'
                  cases h
                  simp only [SV.R] at hgs
                  obtain ⟨hpos, h0, op, oa, cc, hp, hgv, hlc, hcm, _, hadr⟩ := hgs
                  obtain ⟨so, s0⟩ := startOf_n hst hpos
                  have hle : st.i ≤ n.i := of_decide_eq_true (below_ok ha)
                  by_cases hl : len.i.toNat = 0
                  · refine ⟨.tuple #[], w, ρ, ⟨Agree.refl _ _, rfl⟩, Nat.le_refl _, R.weak hf (fun op h => row_short h s0 hle) (fun p h => h), SV.R_any _ _, .inl ?_, fun _ _ _ => rfl⟩
                    rw [ex, hgv, hl]
                    cases oa <;> simp [Builtin.clear_, run_underlying hu]
                  · obtain ⟨p, hop', hoa, hroom⟩ := hadr (by omega)
                    subst hop' hoa
                    have hob := hfind_cell R hf hp
                    obtain ⟨hown, hB⟩ := R.own _ _ _ hf hp
                    have hown' := hown
                    obtain ⟨cs, tb, hb1, hb2, hspot⟩ := hown'
                    have hadd : ∀ n, p.a.add n = ⟨p.a.block, p.a.off + n, none⟩ := fun n => by
                      have h1 := Addr.add_block p.a n
                      have h2 := Addr.add_off p.a n
                      have h3 := Addr.add_spot hspot n
                      cases hh : p.a.add n
                      simp_all
                    obtain ⟨vs, hvs⟩ : ∃ vs, vs = (Builtin.zeroCells zv.cells len.i.toNat).toList := ⟨_, rfl⟩
                    have hvl : vs.length = len.i.toNat * k' := by rw [hvs, zeroCells_length, hzl, hk]
                    have hvone : ∀ x ∈ vs, x.oneCell' = true := fun x hx => hzone x (zeroCells_mem (by rw [← hvs]; exact hx))
                    have hvc : vs.length ≤ cc * k' := by rw [hvl]; exact Nat.mul_le_mul_right _ hlc
                    have hex : ∀ j, j < vs.length → (w.cell? ⟨p.a.block, p.a.off + off.n + j, none⟩).isSome = true := fun j hj => by
                      have : p.a.off + off.n + j < cs.size := by omega
                      simp only [World.cell?, hb1]
                      simp [this]
                    have hfr : ∀ j, j < vs.length → w.frozen? ⟨p.a.block, p.a.off + off.n + j, none⟩ = false := fun j _ => by
                      simp only [World.frozen?, hb1]
                      simp
                    have hrun := run_storeCells_cells (P := P) p.a.block (p.a.off + off.n) vs 0 w (by simpa using hex) (by simpa using hfr) hvone
                    obtain ⟨s1, s2, s3, s4⟩ := setCells_same p.a.block vs (p.a.off + off.n) w
                    refine ⟨.tuple #[], w.setCells p.a.block (p.a.off + off.n) vs, ρ, ⟨Agree.refl _ _, rfl⟩, Nat.le_refl _,
                      R.write hf hp (fun b hb => setCells_other _ _ _ _ b hb) s1 (setCells_own _ _ _ hown) s2 s3 s4 ?_, SV.R_any _ _, .inl ?_, fun b hb hw => setCells_other _ _ _ _ b (fun e => hw hd p (by simp) hp e.symm)⟩
                    · obtain ⟨hm, hcell⟩ := row_short hob s0 hle
                      refine ⟨hm, fun ee j h1 h2 h3 => ?_⟩
                      obtain ⟨p', x, hp', hcx, hone, hrx⟩ := hcell ee j h1 h2 h3
                      cases hp'
                      refine ⟨p, x, rfl, ?_, hone, hrx⟩
                      rw [← hcx, hadd]
                      refine World.cell?_setCells_out _ _ _ _ _ (fun _ _ => ?_)
                      left
                      simp only
                      rw [so]
                      have : (ee.i.toNat + 1) * k' ≤ st.i.toNat * k' := Nat.mul_le_mul_right _ (by omega)
                      rw [Nat.add_mul] at this
                      omega
                    · rw [ex, hgv]
                      have hzr : ∀ w, (zeroValue e).run P w = .ok zv w := fun w => by simp [zeroValue, typeInfo, hi, hzv]
                      obtain ⟨q, hq⟩ := Nat.exists_eq_succ_of_ne_zero hl
                      simp only [Nat.add_zero] at hrun
                      rw [hq] at hvs ⊢
                      rw [hadd]
                      simp [Builtin.clear_, run_underlying hu, hzr, ← hvs, hrun]
                · cases h
              · cases h
            · cases h
          · cases hz
        · cases h
      · cases h
    · cases h
  · cases h
theorem clearN_wr {P : Program} {H : Heap} {nx : Nat} {t : TypeId} {s : SV} {r : NR} (h : clearN P H nx t s = some r) : ∀ g ∈ r.wr, ∃ ob, hfind H g = some (true, ob) := by
  unfold clearN at h
  split at h
  · split at h
    · split at h
      · split at h
        · split at h
          · split at h
            · rename_i hf _
              split at h
              · cases h
                intro g hg
                rw [List.mem_singleton] at hg
                subst hg
                exact ⟨_, hf⟩
              · cases h
            · cases h
          · cases h
        · cases h
      · cases h
    · cases h
  · cases h
end Go.Sx
