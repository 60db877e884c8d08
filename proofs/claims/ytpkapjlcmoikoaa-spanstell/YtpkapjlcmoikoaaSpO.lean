import Derived.Test.YtpkapjlcmoikoaaSpN
set_option linter.all false
/-
  A book, entry by entry and kind by kind.
-/
namespace Go.Sx
open Go
set_option linter.all false
theorem stepK_len (c kd t k : Int) (l : List Sp) : (stepK c kd t k l).length ≤ l.length + 1 := by
  unfold stepK newK
  split <;> simp
theorem spans_len (tm core kind : Int → Int) (c : Int) : ∀ n, (spans tm core kind c n).length ≤ 3 * n
  | 0 => by simp [spans]
  | n + 1 => by
    have := spans_len tm core kind c n
    simp only [spans]
    split
    · unfold takeL
      have h0 := stepK_len c (kind n) (tm n) 0 (spans tm core kind c n)
      have h1 := stepK_len c (kind n) (tm n) 1 (stepK c (kind n) (tm n) 0 (spans tm core kind c n))
      have h2 := stepK_len c (kind n) (tm n) 2 (stepK c (kind n) (tm n) 1 (stepK c (kind n) (tm n) 0 (spans tm core kind c n)))
      omega
    · omega
/-- the spans of cores, one core's behind another's -/
def rowOf (tm core kind : Int → Int) (n : Int) (zs : List Int) : List Sp := zs.flatMap fun c => spans tm core kind c n.toNat
theorem rowOf_len (tm core kind : Int → Int) {n : Int} (h : n ≤ 1000) : ∀ zs : List Int, (rowOf tm core kind n zs).length ≤ 3000 * zs.length
  | [] => by simp [rowOf]
  | c :: r => by
    have h1 := rowOf_len tm core kind h r
    have h2 := spans_len tm core kind c n.toNat
    unfold rowOf at *
    rw [List.flatMap_cons, List.length_append, List.length_cons]
    omega

/-- a book: how many spans; they; where the open ones stand -/
structure BkIs (l : List Sp) (x : Int × List Sp × Int × Int × Int) (b : Int) : Prop where
  len : x.1 = x.2.1.length
  l : x.2.1 = l
  o0 : OpenAt 0 x.2.1 x.2.2.1
  o1 : OpenAt 1 x.2.1 x.2.2.2.1
  o2 : OpenAt 2 x.2.1 x.2.2.2.2
  nb : ∀ s ∈ x.2.1, 0 ≤ s.n ∧ s.n ≤ b
  lb : x.1 ≤ b
/-- a core's book behind the first j entries -/
structure BookAt (tm core kind : Int → Int) (c n : Int) (x : Int × Int × List Sp × Int × Int × Int) : Prop where
  j0 : 0 ≤ x.1
  j1 : x.1 ≤ n
  bk : BkIs (spans tm core kind c x.1.toNat) x.2 (3 * x.1)
theorem bookAt_nil {tm core kind : Int → Int} {c n : Int} (h : 0 ≤ n) : BookAt tm core kind c n (0, 0, [], 0, 0, 0) := ⟨by simp, h, by simp, by simp [spans], OpenAt.nil 0, OpenAt.nil 1, OpenAt.nil 2, fun s hs => by simp at hs, by simp⟩
/-- within an entry: behind the kinds below k -/
def stageL (c kd t : Int) (l : List Sp) (k : Int) : List Sp :=
  if k = 0 then l else if k = 1 then stepK c kd t 0 l else if k = 2 then stepK c kd t 1 (stepK c kd t 0 l) else takeL c kd t l
structure StageAt (c kd t j : Int) (l : List Sp) (x : Int × Int × List Sp × Int × Int × Int) : Prop where
  k : x.1 = 0 ∨ x.1 = 1 ∨ x.1 = 2 ∨ x.1 = 3
  bk : BkIs (stageL c kd t l x.1) x.2 (3 * j + x.1)
theorem stage_start {tm core kind : Int → Int} {c c' n j ln o0 o1 o2 kd t : Int} {S : List Sp} (h : BookAt tm core kind c n (j, ln, S, o0, o1, o2)) : StageAt c' kd t j S (0, ln, S, o0, o1, o2) :=
  ⟨.inl rfl, h.bk.len, rfl, h.bk.o0, h.bk.o1, h.bk.o2, fun s hs => by have := h.bk.nb s hs; simp only at this ⊢; omega, by have := h.bk.lb; simp only at this ⊢; omega⟩
theorem stage_end {tm core kind : Int → Int} {c n j ln o0 o1 o2 l2 p0 p1 p2 : Int} {S S2 : List Sp} (h : BookAt tm core kind c n (j, ln, S, o0, o1, o2)) (hlt : j < n) (hc : core j = c) (hK : BkIs (stageL c (kind j) (tm j) S 3) (l2, S2, p0, p1, p2) (3 * j + 3)) : BookAt tm core kind c n (j + 1, l2, S2, p0, p1, p2) := by
  have h0 := h.j0
  simp only at h0
  have e : (j + 1).toNat = j.toNat + 1 := by omega
  have e2 : ((j.toNat : Nat) : Int) = j := by omega
  refine ⟨by simp only; omega, by simp only; omega, hK.len, ?_, hK.o0, hK.o1, hK.o2, fun s hs => by have := hK.nb s hs; simp only at this ⊢; omega, by have := hK.lb; simp only at this ⊢; omega⟩
  rw [hK.l]
  simp only [e, spans, e2, hc, if_true, stageL]
  have := h.bk.l
  simp only at this
  rw [this]
  rfl
theorem book_other {tm core kind : Int → Int} {c n j ln o0 o1 o2 : Int} {S : List Sp} (h : BookAt tm core kind c n (j, ln, S, o0, o1, o2)) (hlt : j < n) (hc : core j ≠ c) : BookAt tm core kind c n (j + 1, ln, S, o0, o1, o2) := by
  have h0 := h.j0
  simp only at h0
  have e : (j + 1).toNat = j.toNat + 1 := by omega
  have e2 : ((j.toNat : Nat) : Int) = j := by omega
  refine ⟨by simp only; omega, by simp only; omega, h.bk.len, ?_, h.bk.o0, h.bk.o1, h.bk.o2, fun s hs => by have := h.bk.nb s hs; simp only at this ⊢; omega, by have := h.bk.lb; simp only at this ⊢; omega⟩
  simp only [e, spans, e2, hc, if_false]
  exact h.bk.l

theorem updS_n {kd t b : Int} {s : Sp} (h : 0 ≤ s.n ∧ s.n ≤ b) : 0 ≤ (updS kd t s).n ∧ (updS kd t s).n ≤ b + 1 := by
  unfold updS
  split
  · simp only; omega
  · omega
theorem stepK_nb {c kd t k b : Int} {l : List Sp} (hb : 0 ≤ b) (h : ∀ s ∈ l, 0 ≤ s.n ∧ s.n ≤ b) : ∀ s ∈ stepK c kd t k l, 0 ≤ s.n ∧ s.n ≤ b + 1 := by
  intro s hs
  unfold stepK newK at hs
  rcases List.mem_append.1 hs with hs | hs
  · obtain ⟨s', hs', rfl⟩ := List.mem_map.1 hs
    unfold updK
    split
    · exact updS_n (h s' hs')
    · have := h s' hs'; omega
  · split at hs
    · simp only [List.mem_singleton] at hs
      subst hs
      simp only
      omega
    · simp at hs
section
variable {l S2 : List Sp} {l2 p0 p1 p2 b : Int}
theorem BkIs.step0 (h : BkIs l (l2, S2, p0, p1, p2) b) (hb : 0 ≤ b) (c kd t : Int) (ht : t ≠ -1) {l' : Int} (hl : l' = (stepK c kd t 0 S2).length) : BkIs (stepK c kd t 0 l) (l', stepK c kd t 0 S2, nextO 0 kd S2 p0, p1, p2) (b + 1) :=
  ⟨hl, by have := h.l; simp only at this ⊢; rw [this], h.o0.step c kd t ht, h.o1.other (by decide) c kd t, h.o2.other (by decide) c kd t, stepK_nb hb h.nb, by
    have h1 := stepK_len c kd t 0 S2
    have h2 := h.len
    have h3 := h.lb
    simp only at h2 h3 ⊢
    omega⟩
theorem BkIs.step1 (h : BkIs l (l2, S2, p0, p1, p2) b) (hb : 0 ≤ b) (c kd t : Int) (ht : t ≠ -1) {l' : Int} (hl : l' = (stepK c kd t 1 S2).length) : BkIs (stepK c kd t 1 l) (l', stepK c kd t 1 S2, p0, nextO 1 kd S2 p1, p2) (b + 1) :=
  ⟨hl, by have := h.l; simp only at this ⊢; rw [this], h.o0.other (by decide) c kd t, h.o1.step c kd t ht, h.o2.other (by decide) c kd t, stepK_nb hb h.nb, by
    have h1 := stepK_len c kd t 1 S2
    have h2 := h.len
    have h3 := h.lb
    simp only at h2 h3 ⊢
    omega⟩
theorem BkIs.step2 (h : BkIs l (l2, S2, p0, p1, p2) b) (hb : 0 ≤ b) (c kd t : Int) (ht : t ≠ -1) {l' : Int} (hl : l' = (stepK c kd t 2 S2).length) : BkIs (stepK c kd t 2 l) (l', stepK c kd t 2 S2, p0, p1, nextO 2 kd S2 p2) (b + 1) :=
  ⟨hl, by have := h.l; simp only at this ⊢; rw [this], h.o0.other (by decide) c kd t, h.o1.other (by decide) c kd t, h.o2.step c kd t ht, stepK_nb hb h.nb, by
    have h1 := stepK_len c kd t 2 S2
    have h2 := h.len
    have h3 := h.lb
    simp only at h2 h3 ⊢
    omega⟩
/-- what a kind's step does, told plainly -/
inductive StepIs (c kd t k : Int) (S2 : List Sp) (l2 p : Int) (S' : List Sp) (l' p' : Int) : Prop where
  | new (hp : p = 0) (ho : opensK k kd = true) (hS : S' = S2 ++ [⟨c, k, t, -1, 1⟩]) (hl : l' = l2 + 1) (hp' : p' = l2 + 1)
  | none (hp : p = 0) (ho : opensK k kd = false) (hS : S' = S2) (hl : l' = l2) (hp' : p' = 0)
  | upd (hp : p ≠ 0) (hS : ∀ q : Nat, q < S2.length → S'.getD q default = if (q : Int) + 1 = p then updS kd t (S2.getD q default) else S2.getD q default) (hl : l' = l2) (hp' : p' = if closesK k kd then 0 else p)
theorem stepIs {c kd t k : Int} {S2 : List Sp} {l2 p : Int} (h : OpenAt k S2 p) (hl : l2 = S2.length) : StepIs c kd t k S2 l2 p (stepK c kd t k S2) (stepK c kd t k S2).length (nextO k kd S2 p) := by
  have hh := h.has
  have hsz : (stepK c kd t k S2).length = S2.length + (newK c k kd t S2).length := by unfold stepK; simp
  by_cases hp : p = 0
  · have hc : hasOpen k S2 = false := by rw [hh]; simp [hp]
    by_cases ho : opensK k kd = true
    · have e : newK c k kd t S2 = [⟨c, k, t, -1, 1⟩] := by unfold newK; simp [hc, ho]
      refine .new hp ho ?_ ?_ ?_
      · unfold stepK; rw [map_closed hc, e]
      · rw [hsz, e, hl]; simp
      · unfold nextO; rw [if_pos hp, if_pos ho, hl]
    · have ho : opensK k kd = false := by simpa using ho
      have e : newK c k kd t S2 = [] := by unfold newK; simp [ho]
      refine .none hp ho ?_ ?_ ?_
      · unfold stepK; rw [map_closed hc, e, List.append_nil]
      · rw [hsz, e, hl]; simp
      · unfold nextO; rw [if_pos hp, ho]; rfl
  · have hc : hasOpen k S2 = true := by rw [hh]; simp [hp]
    have e : newK c k kd t S2 = [] := by unfold newK; simp [hc]
    refine .upd hp (fun q hq => ?_) ?_ ?_
    · unfold stepK; rw [e, List.append_nil]; exact map_open h q hq
    · rw [hsz, e, hl]; simp
    · unfold nextO; rw [if_neg hp]
end

theorem bk_cps0 {l S2 : List Sp} {l2 p0 p1 p2 b c kd t : Int} (h : BkIs l (l2, S2, p0, p1, p2) b) (hb : 0 ≤ b) (ht : t ≠ -1) {P : Prop} (hP : ∀ l' S' p', BkIs (stepK c kd t 0 l) (l', S', p', p1, p2) (b + 1) → StepIs c kd t 0 S2 l2 p0 S' l' p' → P) : P := hP _ _ _ (h.step0 hb c kd t ht rfl) (stepIs h.o0 h.len)
theorem bk_cps1 {l S2 : List Sp} {l2 p0 p1 p2 b c kd t : Int} (h : BkIs l (l2, S2, p0, p1, p2) b) (hb : 0 ≤ b) (ht : t ≠ -1) {P : Prop} (hP : ∀ l' S' p', BkIs (stepK c kd t 1 l) (l', S', p0, p', p2) (b + 1) → StepIs c kd t 1 S2 l2 p1 S' l' p' → P) : P := hP _ _ _ (h.step1 hb c kd t ht rfl) (stepIs h.o1 h.len)
theorem bk_cps2 {l S2 : List Sp} {l2 p0 p1 p2 b c kd t : Int} (h : BkIs l (l2, S2, p0, p1, p2) b) (hb : 0 ≤ b) (ht : t ≠ -1) {P : Prop} (hP : ∀ l' S' p', BkIs (stepK c kd t 2 l) (l', S', p0, p1, p') (b + 1) → StepIs c kd t 2 S2 l2 p2 S' l' p' → P) : P := hP _ _ _ (h.step2 hb c kd t ht rfl) (stepIs h.o2 h.len)
theorem stage_mk0 {c kd t j : Int} {S : List Sp} {x : Int × List Sp × Int × Int × Int} (h : BkIs (stepK c kd t 0 (stageL c kd t S 0)) x (3 * j + 0 + 1)) : StageAt c kd t j S (1, x) :=
  ⟨.inr (.inl rfl), by simpa [stageL] using h⟩
theorem stage_mk1 {c kd t j : Int} {S : List Sp} {x : Int × List Sp × Int × Int × Int} (h : BkIs (stepK c kd t 1 (stageL c kd t S 1)) x (3 * j + 1 + 1)) : StageAt c kd t j S (2, x) :=
  ⟨.inr (.inr (.inl rfl)), by rw [show (3 : Int) * j + 1 + 1 = 3 * j + 2 by omega] at h; simpa [stageL] using h⟩
theorem stage_mk2 {c kd t j : Int} {S : List Sp} {x : Int × List Sp × Int × Int × Int} (h : BkIs (stepK c kd t 2 (stageL c kd t S 2)) x (3 * j + 2 + 1)) : StageAt c kd t j S (3, x) :=
  ⟨.inr (.inr (.inr rfl)), by rw [show (3 : Int) * j + 2 + 1 = 3 * j + 3 by omega] at h; simpa [stageL, takeL] using h⟩
/-- of the open span: where it stands, what it is -/
theorem open_facts {k : Int} {S2 : List Sp} {p b l2 : Int} (h : OpenAt k S2 p) (hp : p ≠ 0) (hl : l2 = S2.length) (hb : ∀ s ∈ S2, 0 ≤ s.n ∧ s.n ≤ b) : 0 < p ∧ p ≤ l2 ∧ p ≤ S2.length ∧ (S2.getD (p - 1).toNat default).to = -1 ∧ (S2.getD (p - 1).toNat default).kind = k ∧ 0 ≤ (S2.getD (p - 1).toNat default).n ∧ (S2.getD (p - 1).toNat default).n ≤ b := by
  have h0 := h.h0
  have h1 := h.h1
  have hq : (p - 1).toNat < S2.length := by omega
  obtain ⟨e1, e2⟩ := (h.at' _ hq).2 (by omega)
  have hm : S2.getD (p - 1).toNat default ∈ S2 := by
    simp only [List.getD, List.getElem?_eq_getElem hq, Option.getD_some]
    exact List.getElem_mem hq
  exact ⟨by omega, by omega, h1, e2, e1, hb _ hm⟩
theorem take_cps {L S L2 : List Sp} {t ln len len2 : Int} (hL2 : L2 = L ++ S.take t.toNat) (hlen2 : len2 = len + t) (hlen : len = L.length) (hln : ln = S.length) (h0 : 0 ≤ t) (h1 : t < ln) {P : Prop}
    (hP : ∀ l' L', L' = L ++ S.take (t + 1).toNat → l' = len + (t + 1) → l' = len2 + 1 → L' = L2 ++ [S.getD t.toNat default] → len2 = L2.length → P) : P := by
  have ht : t.toNat < S.length := by omega
  refine hP _ _ rfl rfl (by omega) ?_ ?_
  · rw [hL2, show (t + 1).toNat = t.toNat + 1 by omega, List.append_assoc, List.take_succ]
    simp [List.getD, ht]
  · rw [hL2, List.length_append, List.length_take]
    omega
theorem rowOf_succ (tm core kind : Int → Int) (n : Int) {zs : List Int} {i : Int} (h0 : 0 ≤ i) (h1 : i < zs.length) : rowOf tm core kind n (zs.take (i + 1).toNat) = rowOf tm core kind n (zs.take i.toNat) ++ spans tm core kind (listI zs i) n.toNat := by
  have hi : i.toNat < zs.length := by omega
  unfold rowOf listI
  rw [show (i + 1).toNat = i.toNat + 1 by omega, List.take_succ, List.flatMap_append]
  simp [List.getD, hi]
theorem core_end {tm core kind : Int → Int} {n i q j ln t len len2 o0 o1 o2 : Int} {zs : List Int} {L S L2 : List Sp} (h0 : 0 ≤ i) (h1 : i < q) (hq : q ≤ zs.length) (hL : L = rowOf tm core kind n (zs.take i.toNat)) (hlen : len = L.length)
    (hB : BookAt tm core kind (listI zs i) n (j, ln, S, o0, o1, o2)) (hj : n ≤ j) (ht : t ≤ ln) (ht' : ln ≤ t) (hL2 : L2 = L ++ S.take t.toNat) (hlen2 : len2 = len + t) : L2 = rowOf tm core kind n (zs.take (i + 1).toNat) ∧ len2 = L2.length := by
  have hln := hB.bk.len
  have hl := hB.bk.l
  have hj1 := hB.j1
  simp only at hln hl hj1
  obtain rfl : j = n := by omega
  have e : S.take t.toNat = S := List.take_of_length_le (by omega)
  rw [e] at hL2
  refine ⟨?_, ?_⟩
  · rw [rowOf_succ tm core kind j h0 (by omega), hL2, hL, hl]
  · rw [hL2, List.length_append]
    omega
/-! ### the rows that come of it -/
theorem RowIs.shift0 {F : Nat → E → SV} {g : Nat → Int → Int} (h : RowIs F g) (z : E) (hz : z.i = 0) : RowIs (fun j e => F j (plus' z e)) g := by
  intro j e hj
  obtain ⟨x, hx, hv⟩ := h j (plus' z e) hj
  exact ⟨x, hx, by rw [hv, plus'_i, hz, Int.zero_add]⟩
theorem snoc_le {S : Nat → Option Src} {L : List Sp} {n n' v0 v1 v2 v3 v4 z : E} {s : Sp} (hz : z.i = 0) (hn : n.i = L.length) (hn' : n'.i = L.length + 1) (h0 : v0.i = s.core) (h1 : v1.i = s.kind) (h2 : v2.i = s.frm) (h3 : v3.i = s.to) (h4 : v4.i = s.n) :
    ∀ (e e' : E) (j : Nat), e.i = e'.i → 0 ≤ e.i → e.i < n'.i → j < 5 → SVle S (iteSV (cmp' .lss e n) (spF L j (plus' z e)) (getT [.int .i64 v0, .int .i8 v1, .int .i64 v2, .int .i64 v3, .int .i64 v4] j)) (spF (L ++ [s]) j e') := by
  refine RowIs.le (((rowIs_spF L).shift0 z hz).snoc n v0 v1 v2 v3 v4) fun j a hj ha ha' => ?_
  show (if a < n.i then fieldS j (L.getD a.toNat default) else _) = _
  rw [hn]
  rw [hn'] at ha'
  by_cases hlt : a < L.length
  · rw [if_pos hlt, getD_snoc, if_pos (by omega)]
  · rw [if_neg hlt, getD_snoc, if_neg (by omega), if_pos (by omega)]
    match j, hj with
    | 0, _ => exact h0
    | 1, _ => exact h1
    | 2, _ => exact h2
    | 3, _ => exact h3
    | 4, _ => exact h4
/-- one more entry, and the end -/
theorem put2_le {S : Nat → Option Src} {S2 S' : List Sp} {l2 p kd t : Int} {n i i' v v' : E} (hn : n.i = S2.length) (hi : i.i = p - 1) (hi' : i'.i = p - 1) (hlo : 0 < p) (hhi : p ≤ S2.length) (hop : (S2.getD (p - 1).toNat default).to = -1)
    (hv : v.i = (S2.getD (p - 1).toNat default).n + 1) (hv' : v'.i = t) (hc : closesK (S2.getD (p - 1).toNat default).kind kd = true)
    (hS : ∀ q : Nat, q < S2.length → S'.getD q default = if (q : Int) + 1 = p then updS kd t (S2.getD q default) else S2.getD q default) :
    ∀ (e e' : E) (j : Nat), e.i = e'.i → 0 ≤ e.i → e.i < n.i → j < 5 → SVle S (rowPut (rowPut (spF S2) i 4 [.int .i64 v]) i' 3 [.int .i64 v'] j e) (spF S' j e') := by
  refine RowIs.le (((rowIs_spF S2).put 4 i v).put 3 i' v') fun j a hj ha ha' => ?_
  rw [hn] at ha'
  have hp : a + 1 = p ↔ a = p - 1 := by omega
  have hq := hS a.toNat (by omega)
  rw [show ((a.toNat : Nat) : Int) = a by omega] at hq
  show (if j = 3 ∧ a = i'.i then v'.i else if j = 4 ∧ a = i.i then v.i else fieldS j (S2.getD a.toNat default)) = _
  rw [hi, hi', hv, hv']
  by_cases he : a = p - 1
  · rw [if_pos (show a + 1 = p by omega)] at hq
    rw [hq, he]
    unfold updS
    rw [if_pos hop, if_pos hc]
    match j, hj with
    | 0, _ | 1, _ | 2, _ | 3, _ | 4, _ => simp [fieldS]
  · rw [if_neg (show ¬ a + 1 = p by omega)] at hq
    rw [hq, if_neg (fun h => he h.2), if_neg (fun h => he h.2)]
/-- one more entry -/
theorem put1_le {S : Nat → Option Src} {S2 S' : List Sp} {l2 p kd t : Int} {n i v : E} (hn : n.i = S2.length) (hi : i.i = p - 1) (hlo : 0 < p) (hhi : p ≤ S2.length) (hop : (S2.getD (p - 1).toNat default).to = -1)
    (hv : v.i = (S2.getD (p - 1).toNat default).n + 1) (hc : closesK (S2.getD (p - 1).toNat default).kind kd = false)
    (hS : ∀ q : Nat, q < S2.length → S'.getD q default = if (q : Int) + 1 = p then updS kd t (S2.getD q default) else S2.getD q default) :
    ∀ (e e' : E) (j : Nat), e.i = e'.i → 0 ≤ e.i → e.i < n.i → j < 5 → SVle S (rowPut (spF S2) i 4 [.int .i64 v] j e) (spF S' j e') := by
  refine RowIs.le ((rowIs_spF S2).put 4 i v) fun j a hj ha ha' => ?_
  rw [hn] at ha'
  have hq := hS a.toNat (by omega)
  rw [show ((a.toNat : Nat) : Int) = a by omega] at hq
  show (if j = 4 ∧ a = i.i then v.i else fieldS j (S2.getD a.toNat default)) = _
  rw [hi, hv]
  by_cases he : a = p - 1
  · rw [if_pos (show a + 1 = p by omega)] at hq
    rw [hq, he]
    unfold updS
    rw [if_pos hop, hc]
    match j, hj with
    | 0, _ | 1, _ | 2, _ | 4, _ => simp [fieldS]
    | 3, _ => simp only [fieldS]; simpa using hop
  · rw [if_neg (show ¬ a + 1 = p by omega)] at hq
    rw [hq, if_neg (fun h => he h.2)]
end Go.Sx
