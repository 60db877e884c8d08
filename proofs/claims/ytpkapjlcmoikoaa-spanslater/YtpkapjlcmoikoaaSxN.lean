import Derived.Test.YtpkapjlcmoikoaaSxM
set_option linter.all false
/-
  append does what the rule says.
-/
namespace Go.Sx
open Go

section
variable {P : Program} {C : Cx} {ρ : Rho} {H : Heap} {nx : Nat} {g : Operand → Value} {o : Oper} {f : Operand → SV} {r : NR} {w : World}

theorem capGrow_grow {s : SV} {n : E} {a : List E} {m : Mode} (h : capGrow s n = some (a, m)) : m = .grow ∧ ∃ c, capOf s = some c ∧ a = [cmp' .gtr n c] := by
  unfold capGrow at h
  split at h
  · rename_i c hc
    cases h
    exact ⟨rfl, c, hc, rfl⟩
  · cases h
theorem growOr_some {s : SV} {n : E} {a : List E} {m : Mode} (h : growOr H s n = some (a, m)) : (∃ hd k off len cap ob, s = .sl hd k off len cap ∧ hfind H hd = some (true, ob) ∧ m = .own hd) ∨ (m = .grow ∧ ∃ c, capOf s = some c ∧ a = [cmp' .gtr n c]) := by
  unfold growOr at h
  split at h
  · split at h
    · rename_i hf
      cases h
      exact .inl ⟨_, _, _, _, _, _, rfl, hf, rfl⟩
    · exact .inr (capGrow_grow h)
  · exact .inr (capGrow_grow h)
theorem modeOf_same {s : SV} {n1 n2 : E} {a : List E} (h : modeOf H s n1 n2 = some (a, .same)) : n2.i = 0 := by
  unfold modeOf at h
  split at h
  · rfl
  · split at h
    · cases h
    · rcases growOr_some h with ⟨_, _, _, _, _, _, _, _, h3⟩ | ⟨h3, _⟩ <;> cases h3
theorem modeOf_own {s : SV} {n1 n2 : E} {a : List E} {hd : Nat} (h : modeOf H s n1 n2 = some (a, .own hd)) : ∃ k off len cap ob, s = .sl hd k off len cap ∧ hfind H hd = some (true, ob) := by
  unfold modeOf at h
  split at h
  · cases h
  · split at h
    · cases h
    · rcases growOr_some h with ⟨_, _, _, _, _, _, h1, h2, h3⟩ | ⟨h3, _⟩
      · cases h3
        exact ⟨_, _, _, _, _, h1, h2⟩
      · cases h3
theorem capOf_R {s : SV} {oa : Option Addr} {m c : Nat} {ce : E} (h : capOf s = some ce) (hs : SV.R ρ s (.slice oa m c)) : ce.i = (c : Int) := by
  unfold capOf at h
  split at h
  · cases h
    simp only [SV.R] at hs
    cases hs
    rfl
  · simp only [SV.R] at hs
    obtain ⟨_, _, _, _, _, _, he, _, _, hc, _⟩ := hs
    cases he
    exact hc _ h
  · cases h
theorem modeOf_grow {s : SV} {n1 n2 : E} {a : List E} (h : modeOf H s n1 n2 = some (a, .grow)) (ha : astOk a) {oa : Option Addr} {m c : Nat} (hs : SV.R ρ s (.slice oa m c)) : (c : Int) < n1.i + n2.i := by
  unfold modeOf at h
  split at h
  · cases h
  · split at h
    · rename_i hsure
      unfold sureGrow at hsure
      split at hsure
      · rename_i ce hce
        split at hsure
        · rename_i b hb
          have e := cmp'_b .gtr (plus' n1 n2) ce
          rw [hb, E.b_bl, hsure, plus'_i, capOf_R hce hs] at e
          exact of_decide_eq_true e.symm
        · cases hsure
      · cases hsure
    · rcases growOr_some h with ⟨_, _, _, _, _, _, _, _, h3⟩ | ⟨_, ce, hce, h3⟩
      · cases h3
      · subst h3
        have e := ha _ (List.mem_singleton.2 rfl)
        rw [cmp'_b, plus'_i, capOf_R hce hs] at e
        exact of_decide_eq_true e

/-- the append, with all that its cases lean on -/
theorem append_grow {e : TypeId} {i : TypeInfo} {z : Value} {V1 V2 : View} {oa oa2 : Option Addr} {c c2 : Nat} {xs ys : List Value} {t ty : TypeId}
    (ht : P.underlying t = some (.slice e)) (hi : P.info? e = some i) (hz : i.zero = some z) (hzl : z.cells.size = i.size) (hb0 : 0 < i.bytes) (R : Rep C ρ H nx w)
    (h1 : 0 ≤ V1.n.i) (h2 : 0 ≤ V2.n.i) (l1 : xs.length = V1.n.i.toNat * i.size) (l2 : ys.length = V2.n.i.toNat * i.size)
    (o1 : ∀ x ∈ xs, x.oneCell' = true) (o2 : ∀ x ∈ ys, x.oneCell' = true)
    (r1 : ∀ l, V1.lits = some l → SV.RL ρ l xs) (r2 : ∀ l, V2.lits = some l → SV.RL ρ l ys)
    (f1 : ∀ (e : E) (j : Nat), 0 ≤ e.i → e.i < V1.n.i → j < i.size → ∃ x, xs[e.i.toNat * i.size + j]? = some x ∧ SV.R ρ (V1.F j e) x)
    (f2 : ∀ (e : E) (j : Nat), 0 ≤ e.i → e.i < V2.n.i → j < i.size → ∃ x, ys[e.i.toNat * i.size + j]? = some x ∧ SV.R ρ (V2.F j e) x)
    (hold : (Builtin.firstCells i.size V1.n.i.toNat (.slice oa V1.n.i.toNat c)).run P w.drew = .ok xs.toArray w.drew)
    (hnew : (Builtin.firstCells i.size V2.n.i.toNat (.slice oa2 V2.n.i.toNat c2)).run P w.drew = .ok ys.toArray w.drew)
    (hlt : (c : Int) < V1.n.i + V2.n.i) (hby : (V1.n.i.toNat + V2.n.i.toNat) * i.bytes ≤ 140737488355328) :
    ∃ v w' ρ', (Agree ρ ρ' nx ∧ ρ'.d = ρ.d) ∧ Rep C ρ' ((nx, true, joinOb e i.size V1 V2) :: H) (nx + 1) w' ∧ SV.R ρ' (.sl nx i.size (.c 0) (plus' V1.n V2.n) none) v ∧
      (Builtin.append_ #[t, t] ty #[.slice oa V1.n.i.toNat c, .slice oa2 V2.n.i.toNat c2]).run P w = .ok v w' ∧ (∀ b, b < w.heap.size → w'.heap[b]? = w.heap[b]?) := by
  have hlt' : c < V1.n.i.toNat + V2.n.i.toNat := by omega
  have run := run_append_new (P := P) (ty := ty) ht hi hz (x := .slice oa2 V2.n.i.toNat c2) (n := V2.n.i.toNat) (sLen := V1.n.i.toNat) (sCap := c) (base := oa) (w := w) (olds := xs) (news := ys) (fun _ => by simp [Builtin.lenOf]) hold hnew hlt' hby (by omega)
  have hneed : V1.n.i.toNat + V2.n.i.toNat ≤ maxLen := by
    have := Nat.le_mul_of_pos_right (V1.n.i.toNat + V2.n.i.toNat) hb0
    simp only [maxLen]; omega
  have hge := grownCap_ge w (V1.n.i.toNat + V2.n.i.toNat) c e
  have hmax := grownCap_le_maxLen w (V1.n.i.toNat + V2.n.i.toNat) c e hneed
  generalize hg : grownCap w (V1.n.i.toNat + V2.n.i.toNat) c e = gc at run hge hmax
  generalize hcs : (xs.toArray ++ ys.toArray ++ Builtin.zeroCells z.cells (gc - (V1.n.i.toNat + V2.n.i.toNat))) = cs at run
  have hsz : cs.size = gc * i.size := by
    subst hcs
    simp only [Array.size_append, List.size_toArray, size_zeroCells, l1, l2, hzl, ← Nat.add_mul]
    congr 1; omega
  have R' : Rep C ρ H nx w.drew := R.drew
  have hx := Ext.rset (R.fresh nx (Nat.le_refl _)) (some (⟨⟨w.drew.heap.size, 0, none⟩, cs.size⟩ : Pl))
  have hcell : ∀ q x, (xs ++ ys)[q]? = some x → (w.drew.alloc (.cells cs e)).cell? ((⟨w.drew.heap.size, 0, none⟩ : Addr).add q) = some x := fun q x hq => by
    rw [cell_new]
    subst hcs
    have hql : q < (xs ++ ys).length := (List.getElem?_eq_some_iff.1 hq).1
    rw [Array.getElem?_append_left (by simpa using hql)]
    rw [← hq]
    simp
  refine ⟨_, _, rset ρ nx (some ⟨⟨w.drew.heap.size, 0, none⟩, cs.size⟩), ⟨Agree.rset ρ (Nat.le_refl _) _, rfl⟩, R'.alloc cs e _ ?_, ?_, run, fun b hb => heap_alloc_lt w.drew _ _ hb⟩
  · exact joinOb_R h1 h2 l1 l2 o1 o2 (fun l hl => RL_mono hx _ _ (r1 l hl)) (fun l hl => RL_mono hx _ _ (r2 l hl))
      (fun e j a b c => let ⟨x, p, q⟩ := f1 e j a b c; ⟨x, p, R_mono hx _ _ q⟩) (fun e j a b c => let ⟨x, p, q⟩ := f2 e j a b c; ⟨x, p, R_mono hx _ _ q⟩)
      (by rw [hsz]; exact Nat.mul_le_mul_right _ hge) hcell
  · simp only [SV.R]
    refine ⟨trivial, by rw [plus'_i]; omega, some ⟨⟨w.drew.heap.size, 0, none⟩, cs.size⟩, some ⟨w.heap.size, 0, none⟩, gc, by simp [rset], ?_, ?_, hmax, (fun e he => by cases he), fun _ => ⟨_, rfl, by simp only [Off.n, Addr.add]; rfl, by rw [hsz]; simp [Off.n]⟩⟩
    · rw [plus'_i, Int.toNat_add h1 h2]
    · rw [plus'_i, Int.toNat_add h1 h2]; exact hge

theorem append_in {e : TypeId} {i : TypeInfo} {V1 V2 : View} {p : Pl} {n : Nat} {ob : Ob} {hd : Nat} {oa2 : Option Addr} {c c2 : Nat} {xs ys : List Value} {t ty : TypeId}
    (ht : P.underlying t = some (.slice e)) (hi : P.info? e = some i) (R : Rep C ρ H nx w)
    (hf : hfind H hd = some (true, ob)) (hp : ρ hd = some (some p)) (hown : OwnBlock w p)
    (h1 : 0 ≤ V1.n.i) (h2 : 0 ≤ V2.n.i) (l1 : xs.length = V1.n.i.toNat * i.size) (l2 : ys.length = V2.n.i.toNat * i.size)
    (o1 : ∀ x ∈ xs, x.oneCell' = true) (o2 : ∀ x ∈ ys, x.oneCell' = true)
    (r1 : ∀ l, V1.lits = some l → SV.RL ρ l xs) (r2 : ∀ l, V2.lits = some l → SV.RL ρ l ys)
    (f1 : ∀ (e : E) (j : Nat), 0 ≤ e.i → e.i < V1.n.i → j < i.size → ∃ x, xs[e.i.toNat * i.size + j]? = some x ∧ SV.R ρ (V1.F j e) x)
    (f2 : ∀ (e : E) (j : Nat), 0 ≤ e.i → e.i < V2.n.i → j < i.size → ∃ x, ys[e.i.toNat * i.size + j]? = some x ∧ SV.R ρ (V2.F j e) x)
    (hold : ∀ q x, xs[q]? = some x → w.cell? ((p.a.add n).add q) = some x)
    (hnew : (Builtin.firstCells i.size V2.n.i.toNat (.slice oa2 V2.n.i.toNat c2)).run P w = .ok ys.toArray w)
    (hroom : V1.n.i.toNat + V2.n.i.toNat ≤ c) (hcm : c ≤ maxLen) (hpn : n + c * i.size ≤ p.n) :
    ∃ v w' ρ', (Agree ρ ρ' nx ∧ ρ'.d = ρ.d) ∧ Rep C ρ' ((nx, true, joinOb e i.size V1 V2) :: hdel H hd) (nx + 1) w' ∧ SV.R ρ' (.sl nx i.size (.c 0) (plus' V1.n V2.n) none) v ∧
      (Builtin.append_ #[t, t] ty #[.slice (some (p.a.add n)) V1.n.i.toNat c, .slice oa2 V2.n.i.toNat c2]).run P w = .ok v w' ∧ (∀ b, b ≠ p.a.block → w'.heap[b]? = w.heap[b]?) := by
  have hown' := hown
  obtain ⟨cs, t', hb1, hb2, hspot⟩ := hown'
  have hmul : (V1.n.i.toNat + V2.n.i.toNat) * i.size ≤ c * i.size := Nat.mul_le_mul_right _ hroom
  rw [Nat.add_mul] at hmul
  have hin : ∀ j, j < ys.length → (w.cell? ⟨p.a.block, p.a.off + (n + V1.n.i.toNat * i.size + j), none⟩).isSome = true := fun j hj => by
    rw [l2] at hj
    generalize V1.n.i.toNat * i.size = A at *
    generalize V2.n.i.toNat * i.size = B at *
    generalize c * i.size = D at *
    simp only [World.cell?, hb1]
    rw [Array.getElem?_eq_getElem (by omega)]
    rfl
  have ha1 := Addr.add_block p.a n
  have ha2 := Addr.add_off p.a n
  have ha3 := Addr.add_spot hspot n
  have run := run_append_in (P := P) (ty := ty) ht hi (a := p.a.add n) ha3 (x := .slice oa2 V2.n.i.toNat c2) (n := V2.n.i.toNat) (sLen := V1.n.i.toNat) (sCap := c) (w := w) (news := ys) (fun _ => by simp [Builtin.lenOf]) hnew hroom
    (fun j hj => by rw [ha1, ha2]; have := hin j hj; simpa [Nat.add_assoc] using this) (fun j hj => by rw [ha1]; simp only [World.frozen?, hb1]; simp) o2
  rw [ha1, ha2] at run
  obtain ⟨s1, s2, s3, s4⟩ := setCells_same p.a.block ys (p.a.off + n + V1.n.i.toNat * i.size) w
  have hx := Ext.rset (R.fresh nx (Nat.le_refl _)) (some (⟨p.a.add n, p.n - n⟩ : Pl))
  have how := setCells_own ys (p.a.off + n + V1.n.i.toNat * i.size) w hown
  have hadd : ∀ q, (p.a.add n).add q = ⟨p.a.block, p.a.off + n + q, none⟩ := fun q => by
    have e1 := Addr.add_block (p.a.add n) q
    have e2 := Addr.add_off (p.a.add n) q
    have e3 := Addr.add_spot ha3 q
    cases hh : (p.a.add n).add q
    simp_all
  have hcell : ∀ q x, (xs ++ ys)[q]? = some x → (w.setCells p.a.block (p.a.off + n + V1.n.i.toNat * i.size) ys).cell? ((p.a.add n).add q) = some x := fun q x hq => by
    rw [hadd]
    by_cases hql : q < xs.length
    · rw [List.getElem?_append_left hql] at hq
      rw [World.cell?_setCells_out _ _ _ _ _ (fun _ _ => Or.inl (by simp only; omega)), ← hadd]
      exact hold q x hq
    · rw [List.getElem?_append_right (by omega)] at hq
      have hq2 := (List.getElem?_eq_some_iff.1 hq).1
      have := World.cell?_setCells_in p.a.block ys (p.a.off + n + V1.n.i.toNat * i.size) w (fun j hj => by have := hin j hj; simpa [Nat.add_assoc] using this) (q - xs.length) hq2
      have hqe : p.a.off + n + q = p.a.off + n + V1.n.i.toNat * i.size + (q - xs.length) := by omega
      rw [hqe, this]
      rw [List.getElem?_eq_getElem hq2] at hq
      exact hq
  refine ⟨_, _, rset ρ nx (some ⟨p.a.add n, p.n - n⟩), ⟨Agree.rset ρ (Nat.le_refl _) _, rfl⟩, R.move hf hp (p' := ⟨p.a.add n, p.n - n⟩) ha1 (fun b hb => setCells_other _ _ _ _ b hb) s1 ?_ s2 s3 s4 ?_, ?_, run, fun b hb => setCells_other _ _ _ _ b hb⟩
  · refine joinOb_own ?_
    obtain ⟨cs', t'', g1, g2, g3⟩ := how
    refine ⟨cs', t'', by rw [ha1]; exact g1, ?_, ha3⟩
    rw [ha2]
    have : n ≤ p.n := by omega
    simp only
    omega
  · exact joinOb_R h1 h2 l1 l2 o1 o2 (fun l hl => RL_mono hx _ _ (r1 l hl)) (fun l hl => RL_mono hx _ _ (r2 l hl))
      (fun e j a b c => let ⟨x, p, q⟩ := f1 e j a b c; ⟨x, p, R_mono hx _ _ q⟩) (fun e j a b c => let ⟨x, p, q⟩ := f2 e j a b c; ⟨x, p, R_mono hx _ _ q⟩)
      (by rw [Nat.add_mul]; simp only; omega) hcell
  · simp only [SV.R]
    refine ⟨trivial, by rw [plus'_i]; omega, some ⟨p.a.add n, p.n - n⟩, some (p.a.add n), c, by simp [rset], ?_, ?_, hcm, (fun e he => by cases he), fun _ => ⟨_, rfl, by simp [Off.n, Addr.add], by simp only [Off.n]; omega⟩⟩
    · rw [plus'_i, Int.toNat_add h1 h2]
    · rw [plus'_i, Int.toNat_add h1 h2]; exact hroom


theorem Rep.del_old {C : Cx} {ρ : Rho} {H : Heap} {nx : Nat} {w : World} {ob : Bool × Ob} {hd : Nat} (hne : nx ≠ hd) (R : Rep C ρ ((nx, ob) :: H) (nx + 1) w) : Rep C ρ ((nx, ob) :: hdel H hd) (nx + 1) w := by
  have := R.del hd
  simp only [hdel, nbeq, hne, decide_false] at this
  exact this

theorem append_nothing {e : TypeId} {i : TypeInfo} {V1 V2 : View} {xs ys : List Value} {oa : Option Addr} {c : Nat} (R : Rep C ρ H nx w)
    (h1 : V1.n.i = 0) (h2 : V2.n.i = 0) (l1 : xs.length = V1.n.i.toNat * i.size) (l2 : ys.length = V2.n.i.toNat * i.size)
    (r1 : ∀ l, V1.lits = some l → SV.RL ρ l xs) (r2 : ∀ l, V2.lits = some l → SV.RL ρ l ys) (hc : c = 0) :
    Rep C (rset ρ nx none) ((nx, true, joinOb e i.size V1 V2) :: H) (nx + 1) w ∧ SV.R (rset ρ nx none) (.sl nx i.size (.c 0) (plus' V1.n V2.n) none) (.slice oa 0 c) := by
  subst hc
  constructor
  · have hrow : joinOb e i.size V1 V2 = joinRow e i.size V1 (oneV V2) := by
      unfold joinOb
      split
      · rename_i a b ha hb
        have h : (a ++ b).length = 0 := by
          rw [RL_length (RL_append (r1 a ha) (r2 b hb)), List.length_append, l1, l2, h1, h2]
          simp
        split
        · rfl
        · rename_i x r hx
          rw [hx] at h
          simp at h
      · rfl
    rw [hrow]
    rcases joinRow_cases e i.size V1 (oneV V2) with ⟨_, hj⟩ | hj
    · rw [hj]
      exact R.none (by rw [oneV_n, h2]) _
    · rw [hj]
      exact R.none (by rw [plus'_i, oneV_n, h1, h2]; rfl) _
  · simp only [SV.R]
    refine ⟨trivial, by rw [plus'_i, h1, h2]; simp, none, oa, 0, by simp [rset], by rw [plus'_i, h1, h2]; rfl, by rw [plus'_i, h1, h2]; simp, by simp [maxLen], (fun e he => by cases he), fun h => absurd rfl h⟩

theorem appendN_ok {c : Call} {t : TypeId} {s x : Operand} (hop : o.op = .call c) (hc : c.callee = .builtin .append) (ht : c.argTypes.toList = [t, t]) (hargs : c.args.toList = [s, x]) (hR : RO ρ f g) (R : Rep C ρ H nx w)
    (h : appendN P H nx t (f s) (f x) = some r) (ha : astOk r.ast) : NOk P C ρ nx g o r w := by
  have hv' : c.args.map g = #[g s, g x] := by rw [← Array.toArray_toList (xs := c.args.map g), Array.toList_map, hargs]; rfl
  have ht' : c.argTypes = #[t, t] := by rw [← Array.toArray_toList (xs := c.argTypes), ht]
  have ex : execOp g o = (do pure (.value (← Builtin.append_ #[t, t] o.type #[g s, g x])) : Sem Next) := by rw [exec_builtin hop hc, hv', ht']; rfl
  unfold appendN at h
  split at h
  · rename_i e hu
    split at h
    · rename_i i hi
      split at h
      · rename_i z hz
        split at h
        · rename_i hz1 hz2 hz3
          have hz1 := Nat.eq_of_beq_eq_true hz1
          have hz2 : 0 < i.size := Nat.ble_eq.mp hz2
          have hz3 : 0 < i.bytes := Nat.ble_eq.mp hz3
          unfold zeroL at hz
          split at hz
          · rename_i zv hzv
            cases hz
            have hzl : zv.cells.size = i.size := by simpa using hz1
            split at h
            · rename_i V1 V2 hV1 hV2
              have key : ∀ a b : List E, r.ast = V1.ast ++ (V2.ast ++ (a ++ b)) → astOk V1.ast ∧ astOk V2.ast ∧ astOk a ∧ astOk b := fun a b e => by
                rw [e] at ha
                exact ⟨(astOk_app ha).1, (astOk_app (astOk_app ha).2).1, (astOk_app (astOk_app (astOk_app ha).2).2).1, (astOk_app (astOk_app (astOk_app ha).2).2).2⟩
              have views : astOk V1.ast → astOk V2.ast → ViewR P ρ i.size V1 (g s) w (hOf (f s)) ∧ ViewR P ρ i.size V2 (g x) w (hOf (f x)) := fun a1 a2 => ⟨viewOf_R R.obj hz2 hV1 (hR s) a1, viewOf_R R.obj hz2 hV2 (hR x) a2⟩
              have bytes : ∀ n1 n2 : E, 0 ≤ n1.i → 0 ≤ n2.i → astOk (below .leq (plus' n1 n2) (.lit (140737488355328 / i.bytes : Nat))) → (n1.i.toNat + n2.i.toNat) * i.bytes ≤ 140737488355328 := fun n1 n2 g1 g2 hb => by
                have hb := below_ok hb
                rw [plus'_i, E.i_lit] at hb
                have hb : n1.i + n2.i ≤ ((140737488355328 / i.bytes : Nat) : Int) := of_decide_eq_true hb
                have h3 : n1.i.toNat + n2.i.toNat ≤ 140737488355328 / i.bytes := by
                  generalize 140737488355328 / i.bytes = D at hb ⊢
                  omega
                exact Nat.le_trans (Nat.mul_le_mul_right _ h3) (Nat.div_mul_le_self _ _)
              split at h
              · -- nothing is added
                rename_i a hm
                cases h
                have hn2 := modeOf_same hm
                obtain ⟨a1, a2, _, _⟩ := key a [] (by simp)
                obtain ⟨w1, w2⟩ := views a1 a2
                obtain ⟨oa, c1, xs, e1, q1, q1', q2, q3, q4, q5, q6, q7⟩ := w1.val
                obtain ⟨oa2, c2, ys, e2, p1, p1', p2, p3, p4, p5, p6, p7⟩ := w2.val
                have hy : ys = [] := by
                  rw [hn2] at p2
                  exact List.eq_nil_of_length_eq_zero (by simpa using p2)
                have hnew := p6 w (fun _ _ _ _ => rfl)
                rw [hn2] at hnew
                rw [e2, hn2] at hnew
                rw [hy] at hnew
                have run := run_append_nothing (P := P) (ty := o.type) (w := w) (base := oa) (sLen := V1.n.i.toNat) (sCap := c1) hu hi (x := .slice oa2 0 c2) (fun _ => by simp [Builtin.lenOf]) hnew q1
                refine ⟨g s, w, ρ, ⟨Agree.refl _ _, rfl⟩, Nat.le_refl _, R, hR s, .inl ?_, fun _ _ _ => rfl⟩
                rw [ex, e1, e2, hn2]
                simp only [Sem.run_bind]
                rw [show (0 : Int).toNat = 0 from rfl, run]
                rfl
              · -- a new block
                rename_i a hm
                cases h
                obtain ⟨a1, a2, a3, a4⟩ := key _ _ rfl
                obtain ⟨w1, w2⟩ := views a1 a2
                have hs := hR s
                obtain ⟨oa, c1, xs, e1, q1, q1', q2, q3, q4, q5, q6, q7⟩ := w1.val
                obtain ⟨oa2, c2, ys, e2, p1, p1', p2, p3, p4, p5, p6, p7⟩ := w2.val
                rw [e1] at hs
                have hlt := modeOf_grow hm a3 hs
                obtain ⟨v, w', ρ', h1, h2, h3, h4, h5⟩ := append_grow (ty := o.type) hu hi hzv hzl hz3 R w1.n0 w2.n0 q2 p2 q3 p3 q4 p4 q5 p5 (by rw [← e1]; exact q6 w.drew (fun _ _ _ _ => rfl)) (by rw [← e2]; exact p6 w.drew (fun _ _ _ _ => rfl)) hlt (bytes _ _ w1.n0 w2.n0 a4)
                refine ⟨v, w', ρ', h1, Nat.le_succ _, h2, h3, .inl ?_, fun b hb _ => h5 b hb⟩
                rw [ex, e1, e2]
                simp only [Sem.run_bind, h4]
                rfl
              · -- an own row
                rename_i a hd hm
                cases h
                obtain ⟨a1, a2, a3, a4⟩ := key _ _ rfl
                obtain ⟨w1, w2⟩ := views a1 a2
                have hs := hR s
                obtain ⟨oa, c1, xs, e1, q1, q1', q2, q3, q4, q5, q6, q7⟩ := w1.val
                obtain ⟨oa2, c2, ys, e2, p1, p1', p2, p3, p4, p5, p6, p7⟩ := w2.val
                obtain ⟨k, off, len, cap, ob, hsl, hf⟩ := modeOf_own hm
                have hhd := hfind_lt R hf
                rw [e1] at hs
                by_cases hroom : V1.n.i.toNat + V2.n.i.toNat ≤ c1
                · by_cases hc0 : c1 = 0
                  · have z1 : V1.n.i = 0 := by have := w1.n0; omega
                    have z2 : V2.n.i = 0 := by have := w2.n0; omega
                    have hy : ys = [] := by
                      rw [z2] at p2
                      exact List.eq_nil_of_length_eq_zero (by simpa using p2)
                    have hnew := p6 w (fun _ _ _ _ => rfl)
                    rw [z2, e2, z2, hy] at hnew
                    have run := run_append_nothing (P := P) (ty := o.type) (w := w) (base := oa) (sLen := 0) (sCap := c1) hu hi (x := .slice oa2 0 c2) (fun _ => by simp [Builtin.lenOf]) hnew (Nat.zero_le _)
                    obtain ⟨n1, n2⟩ := append_nothing (e := e) (oa := oa) R z1 z2 q2 p2 q4 p4 hc0
                    refine ⟨_, w, rset ρ nx none, ⟨Agree.rset ρ (Nat.le_refl _) _, rfl⟩, Nat.le_succ _, Rep.del_old (by omega) n1, n2, .inl ?_, fun _ _ _ => rfl⟩
                    rw [ex, e1, e2, z1, z2]
                    simp only [Sem.run_bind]
                    rw [show (0 : Int).toNat = 0 from rfl, run]
                    rfl
                  · rw [hsl] at hs hV1
                    simp only [SV.R] at hs
                    obtain ⟨_, _, op, oa', cc, hp, hsv, _, _, _, hadr⟩ := hs
                    injection hsv with hsv1 hsv2 hsv3
                    subst hsv1
                    subst hsv3
                    obtain ⟨p, rfl, rfl, hpn⟩ := hadr hc0
                    have hk : k = i.size ∧ OwnBlock w p := by
                      unfold viewOf at hV1
                      simp only [hf] at hV1
                      split at hV1
                      · rename_i hk hb _
                        refine ⟨Nat.eq_of_beq_eq_true hk, ?_⟩
                        cases hb
                        split at hV1
                        · rename_i hrow
                          exact asRow_own hrow (R.own _ _ _ hf hp).1
                        · cases hV1
                      · cases hV1
                    obtain ⟨hk, hown⟩ := hk
                    subst hk
                    obtain ⟨v, w', ρ', h1, h2, h3, h4, h5⟩ := append_in (ty := o.type) hu hi R hf hp hown w1.n0 w2.n0 q2 p2 q3 p3 q4 p4 q5 p5 (q7 _ rfl) (by rw [← e2]; exact p6 w (fun _ _ _ _ => rfl)) hroom q1' hpn
                    refine ⟨v, w', ρ', h1, Nat.le_succ _, h2, h3, .inl ?_, fun b hb hw => h5 b (fun e => hw hd p (by simp) hp e.symm)⟩
                    rw [ex, e1, e2]
                    simp only [Sem.run_bind, h4]
                    rfl
                · obtain ⟨v, w', ρ', h1, h2, h3, h4, h5⟩ := append_grow (ty := o.type) hu hi hzv hzl hz3 R w1.n0 w2.n0 q2 p2 q3 p3 q4 p4 q5 p5 (by rw [← e1]; exact q6 w.drew (fun _ _ _ _ => rfl)) (by rw [← e2]; exact p6 w.drew (fun _ _ _ _ => rfl)) (by have := w1.n0; have := w2.n0; omega) (bytes _ _ w1.n0 w2.n0 a4)
                  refine ⟨v, w', ρ', h1, Nat.le_succ _, Rep.del_old (by omega) h2, h3, .inl ?_, fun b hb _ => h5 b hb⟩
                  rw [ex, e1, e2]
                  simp only [Sem.run_bind, h4]
                  rfl
              · cases h
            · cases h
          · cases hz
        · cases h
      · cases h
    · cases h
  · cases h
end
end Go.Sx
