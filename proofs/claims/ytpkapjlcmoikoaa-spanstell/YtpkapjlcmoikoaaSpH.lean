import Derived.Test.YtpkapjlcmoikoaaSpM
import Derived.Test.YtpkapjlcmoikoaaSpA
import Derived.Test.YtpkapjlcmoikoaaShelf
import Derived.WalkKit
set_option linter.all false
/-
  The shelf's sorts, as calls of the executor.
-/
namespace Go.Sx
open Go Go.Sort Go.Proofs

/-- a span that begins at a time that is -/
abbrev SpR := { s : Sp // 0 ≤ s.frm ∧ s.frm < 9223372036854775808 }
instance : Inhabited SpR := ⟨⟨default, by decide⟩⟩
def encR (s : SpR) : List Value := spV s.1
def cmpR (a b : SpR) : Int := a.1.frm - b.1.frm

set_option maxHeartbeats 1000000 in
theorem closure32 (x y : SpR) (W : World) : Calls Try.prog 32 #[.agg (encR x).toArray, .agg (encR y).toArray] W fun e w' => e = .returned (.int .i64 (cmpR x y)) ∧ ∃ q os', w' = grow (W.drewN q) os' := by
  obtain ⟨⟨a0, a1, a2, a3, a4⟩, ha⟩ := x
  obtain ⟨⟨b0, b1, b2, b3, b4⟩, hb⟩ := y
  simp only at ha hb
  simp only [encR, spV, cmpR]
  obtain ⟨ha1, ha2⟩ := ha
  obtain ⟨hb1, hb2⟩ := hb
  go_enter Try.func32, Try.ntmps32
  go_wp2
  go_ret
  exact ⟨rfl, 0, _, by rw [alloc_eq_grow, alloc_eq_grow, grow_grow]; rfl⟩

theorem ltR {x y : SpR} : ltOf cmpR x y = true ↔ x.1.frm < y.1.frm := by
  unfold ltOf cmpR
  rw [decide_eq_true_eq]
  omega
theorem ltRf {x y : SpR} : ltOf cmpR x y = false ↔ y.1.frm ≤ x.1.frm := by
  unfold ltOf cmpR
  rw [decide_eq_false_iff_not]
  omega
theorem swoR : SWO (ltOf cmpR) where
  irrefl x := by simp [ltOf, cmpR]
  trans x y z h1 h2 := ltR.2 (by have := ltR.1 h1; have := ltR.1 h2; omega)
  ntrans x y z h1 h2 := ltRf.2 (by have := ltRf.1 h1; have := ltRf.1 h2; omega)

theorem hset_same : ∀ {H : Heap} {h : Nat} {x : Bool × Ob}, hfind H h = some x → ∀ i, hfind (hset H h x) i = hfind H i := fun {H h x} hf i => by
  rw [hfind_hset]
  split
  · rename_i e; subst e; exact hf.symm
  · rfl
theorem Rep.congr {C : Cx} {ρ : Rho} {H H' : Heap} {nx : Nat} {w : World} (R : Rep C ρ H nx w) (e : ∀ i, hfind H' i = hfind H i) : Rep C ρ H' nx w :=
  ⟨fun h own o hf => R.obj h own o (by rw [← e]; exact hf), fun h o p hf hp => R.own h o p (by rw [← e]; exact hf) hp, fun h o h' own' o' p p' hne hf hf' => R.sep h o h' own' o' p p' hne (by rw [← e]; exact hf) (by rw [← e]; exact hf'),
   R.fresh, R.lt, R.size, R.frame, R.os, R.tape, R.output, ⟨R.dfr.nd, R.dfr.blk, R.dfr.own, fun b hb h own o p hf hp => R.dfr.sep b hb h own o p (by rw [← e]; exact hf) hp⟩⟩

theorem attachR (L : List Sp) (hL : ∀ s ∈ L, 0 ≤ s.frm ∧ s.frm < 9223372036854775808) : ∃ d : List SpR, d.map (·.1) = L := ⟨L.pmap (fun s h => ⟨s, h⟩) hL, by
  rw [List.map_pmap]
  simp⟩

theorem flat_get {α : Type} [Inhabited α] (enc : α → List Value) (d : List α) (k i j : Nat) (hi : i < d.length) (hj : j < k) : (flatK enc k d.toArray)[i * k + j]! = (enc d[i]!)[j]! := by
  have h1 : (i + 1) * k ≤ d.length * k := Nat.mul_le_mul_right _ hi
  rw [Nat.add_mul] at h1
  rw [get_flatK enc k d.toArray _ (by simp; omega)]
  have e1 : (i * k + j) / k = i := (blk_iff k i _ (by omega)).1 ⟨by omega, by omega⟩
  have e2 : (i * k + j) % k = j := by rw [Nat.mod_eq_sub_div_mul, e1]; omega
  rw [e1, e2]
  simp [hi]

/-- slices.SortFunc at spans, by their beginnings -/
theorem sort_spans {C : Cx} {H : Heap} {nx : Nat} {k : SV → Heap → Nat → Prop} {h : Nat} {t : TypeId} {n : E} {cap : Option E} {L : List Sp} (hf : hfind H h = some (true, .row t 5 n (spF L))) (hn : n.i = L.length)
    (hL : ∀ s ∈ L, 0 ≤ s.frm ∧ s.frm < 9223372036854775808) (hsz : L.length < 4611686018427387904)
    (hk : ∀ L' : List Sp, L'.Perm L → L'.Pairwise (fun a b => a.frm ≤ b.frm) → k (.tup []) (hset H h (true, .row t 5 n (spF L'))) nx) : CallOb PP C 31 [.sl h 5 (.c 0) n cap, .fn (.func 32) [] []] H nx k := by
  refine ⟨fun ρ vs w R ro hargs hrep hR => ?_⟩
  obtain ⟨d, hd⟩ := attachR L hL
  have hlen : d.length = L.length := by rw [← hd]; simp
  have hn' : n.i.toNat = d.length := by omega
  have hcap : ∀ c : Nat, n.i.toNat ≤ c → d.length ≠ 0 → c ≠ 0 := fun c _ _ => by omega
  have hempty : d.length = 0 → L = [] := fun h => List.length_eq_zero_iff.1 (by omega)
  have hidx : ∀ i : Int, 0 ≤ i → i < n.i → i.toNat < d.length ∧ i.toNat < L.length ∧ i < L.length := fun i _ _ => by omega
  have hsz' : d.toArray.size < 4611686018427387904 := by simp; omega
  obtain ⟨vs⟩ := vs
  match vs, hargs with
  | [v0, v1], hargs =>
  simp only [SV.RL, SV.R, and_true] at hargs
  obtain ⟨⟨_, h0, op, oa, c, h1, rfl, h2, h3, h4, h5⟩, x, y, rfl, hx, hy⟩ := hargs
  have hx : x = #[] := by
    obtain ⟨x⟩ := x
    cases x with
    | nil => rfl
    | cons a r => simp [SV.RL] at hx
  have hy : y = #[] := by
    obtain ⟨y⟩ := y
    cases y with
    | nil => rfl
    | cons a r => simp [SV.RL] at hy
  subst hx
  subst hy
  have eg : ∀ args w, (callFunc 32 args).run Try.prog w = .ok (.enter 32 args) w := enters_of Try.func32 (by kernel_rfl) rfl
  have toC : ∀ {R' : Ending → World → Prop} {v0 : Value}, Calls PP 31 #[v0, .func (.func 32) #[] #[]] w R' → CallsIn (FW ro) 0 PP 31 #[v0, .func (.func 32) #[] #[]] w R' := fun hc => by
    have := (callsIn_wide (n := 0)).2 hc
    exact this
  rw [hn']
  by_cases hz : d.length = 0
  · rw [hz]
    have hL0 : L = [] := hempty hz
    subst hL0
    have hc := AnyF.slices_SortFunc_none Try.sortSpan oa c (.func (.func 32) #[] #[]) w
    change Calls PP 31 _ _ _ at hc
    refine toC (hc.mono fun e w' ⟨he, hw⟩ => ?_)
    subst he
    subst hw
    exact hR (.tup []) _ (hset H h (true, .row t 5 n (spF []))) nx ρ _ (hk [] (List.Perm.refl _) List.Pairwise.nil) (by simp only [SV.R, SV.RL]; exact ⟨#[], rfl, trivial⟩) (hrep.congr (hset_same hf)) (Agree.refl _ _) rfl (Nat.le_refl _)
  · have hc0 : c ≠ 0 := hcap c h2 hz
    obtain ⟨p, rfl, rfl, _⟩ := h5 hc0
    clear h5
    obtain ⟨how, _⟩ := hrep.own h _ p hf h1
    have how : OwnBlock w p := how
    have hsz5 : (flatK encR 5 d.toArray).size = n.i.toNat * 5 := by rw [size_flatK, hn']; simp
    have hH : HoldsK encR 5 w p.a.block p.a.off d.toArray := by
      refine holds_of_row hrep hf h1 (flatK encR 5 d.toArray) hsz5 (by decide) fun e j e1 e2 e3 v hv => ?_
      obtain ⟨i1, i2, i3⟩ := hidx e.i e1 e2
      rw [flat_get encR d 5 e.i.toNat j i1 e3]
      have hv' := (spF_R (ρ := ρ) (L := L) (e := e) e1 i3 j e3 v).1 hv
      rw [hv']
      have : L[e.i.toNat]! = (d[e.i.toNat]!).1 := by
        simp only [i1, i2, getElem!_pos]
        simp [← hd]
      rw [this]
      rfl
    have hcon := AnyQ.slices_SortFunc Try.sortSpan 5 Try.isAgg33 Try.sizeOf33 encR (fun _ => rfl) (fun s v hv => by
        simp only [encR, spV, List.mem_cons, List.not_mem_nil, or_false] at hv
        rcases hv with rfl | rfl | rfl | rfl | rfl <;> rfl) cmpR swoR 32 #[] p.a.block p.a.off c d.toArray w eg (fun _ _ _ _ x y => closure32 x y _) hH (hrep.lt h p h1) hsz'
    change Calls PP 31 _ _ _ at hcon
    have hadr : p.a.add (Off.c 0).n = ⟨p.a.block, p.a.off, none⟩ := addr_at how 0
    rw [hadr]
    have hs : d.toArray.size = d.length := by simp
    rw [hs] at hcon
    refine toC (hcon.mono fun e w' ⟨he, d', q, os, hp, hsort, hw⟩ => ?_)
    subst he
    subst hw
    obtain ⟨hp1, _, hp3⟩ := hp
    rw [hs] at hp1
    have hperm : d'.toList.Perm d := by
      have e1 : (d'.extract 0 d.length).toList = d'.toList := by
        rw [← hp1]; simp
      have e2 : (d.toArray.extract 0 d.length).toList = d := by simp
      rw [e1, e2] at hp3
      exact hp3
    refine hR (.tup []) _ (hset H h (true, .row t 5 n (spF (d'.toList.map (·.1))))) nx ρ _ (hk _ ?_ ?_) (by simp only [SV.R, SV.RL]; exact ⟨#[], rfl, trivial⟩) ?_ (Agree.refl _ _) rfl (Nat.le_refl _)
    · rw [← hd]
      exact hperm.map _
    · rw [List.pairwise_map, List.pairwise_iff_getElem]
      intro i j hi hj hij
      have := hsort i j (Nat.zero_le _) hij (by simp at hj; omega)
      have this := ltRf.1 this
      simp at hi hj
      simp only [hi, hj, getElem!_pos] at this
      simpa only [Array.getElem_toList] using this
    · refine hrep.putRow hf h1 (flatK encR 5 d.toArray) (flatK encR 5 d') hH (by simp [hp1]) (by simp; omega) q os _ (fun e j e1 e2 e3 => ?_) (fun j hj => ?_)
      · have hlt : e.i.toNat < d'.toList.length := by simp; omega
        have := flat_get encR d'.toList 5 e.i.toNat j hlt e3
        simp only [Array.toArray_toList] at this
        show SV.R ρ _ (flatK encR 5 d')[_]!
        rw [this]
        refine (spF_R (ρ := ρ) e1 (by simp; omega) j e3 _).2 ?_
        have hlt' : e.i.toNat < (d'.toList.map (·.1)).length := by simpa using hlt
        simp only [hlt, hlt', getElem!_pos]
        simp [encR]
      · rw [get_flatK encR 5 d' j (by simpa using hj)]
        have h5 : j % 5 < 5 := Nat.mod_lt _ (by decide)
        generalize d'[j / 5]! = s
        generalize j % 5 = r at h5
        match r, h5 with
        | 0, _ | 1, _ | 2, _ | 3, _ | 4, _ => rfl
end Go.Sx
