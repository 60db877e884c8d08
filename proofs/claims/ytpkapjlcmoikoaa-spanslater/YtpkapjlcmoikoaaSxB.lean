import Derived.Test.YtpkapjlcmoikoaaSxA
set_option linter.all false
/-
  Objects of the heap, and when a symbolic heap stands for a world.
-/
namespace Go.Sx
open Go

/-- An object: cells, each known; or a row of n elements of k cells each, cell j of element i being F j i. -/
inductive Ob where
  | cells (t : TypeId) (vs : List SV)
  | row (t : TypeId) (k : Nat) (n : E) (F : Nat → E → SV)
  /-- the record of a loop over a function; the block for its deferred calls, open or shut -/
  | loop (s : LoopState) (pend : Option Code) (tm : List SV) (ps : Array Tmp) (assign body : Code)
  | dfr (opn : Bool)

def Ob.R (ρ : Rho) (w : World) : Ob → Option Pl → Prop
  | .cells _ vs, op => ∃ p, op = some p ∧ vs.length ≤ p.n ∧ ∀ j s, vs[j]? = some s → ∃ x, w.cell? (p.a.add j) = some x ∧ x.oneCell' = true ∧ SV.R ρ s x
  | .row _ k n F, op => (0 ≤ n.i ∧ ∀ p, op = some p → n.i.toNat * k ≤ p.n) ∧ ∀ (e : E) (j : Nat), 0 ≤ e.i → e.i < n.i → j < k → ∃ p x, op = some p ∧ w.cell? (p.a.add (e.i.toNat * k + j)) = some x ∧ x.oneCell' = true ∧ SV.R ρ (F j e) x
  | .loop s pend tm ps assign body, op => ∃ p, op = some p ∧ ∃ fn tmps d, w.heap[p.a.block]? = some (.loop { state := s, pending := pend, fn, tmps, params := ps, assign, body, defers := d }) ∧ SV.RL ρ tm tmps.toList ∧ codeOk assign = true ∧ codeOk body = true
  | .dfr opn, op => ∃ p, op = some p ∧ w.heap[p.a.block]? = some (.deferred (if opn = true then some [] else none))

/-- handle; is it the run's own (may it be written); the object -/
abbrev Heap := List (Nat × Bool × Ob)
def hfind : Heap → Nat → Option (Bool × Ob)
  | [], _ => none
  | (h, x) :: r, g => match Nat.beq h g with
    | true => some x
    | false => hfind r g
def hset : Heap → Nat → Bool × Ob → Heap
  | [], g, x => [(g, x)]
  | (h, y) :: r, g, x => match Nat.beq h g with
    | true => (h, x) :: r
    | false => (h, y) :: hset r g x
def hdel : Heap → Nat → Heap
  | [], _ => []
  | (h, y) :: r, g => match Nat.beq h g with
    | true => hdel r g
    | false => (h, y) :: hdel r g

theorem nbeq (a b : Nat) : Nat.beq a b = decide (a = b) := by
  cases h : Nat.beq a b with
  | true => simp [Nat.eq_of_beq_eq_true h]
  | false => simp [Nat.ne_of_beq_eq_false h]

theorem hfind_cons (h : Nat) (x : Bool × Ob) (r : Heap) (g : Nat) : hfind ((h, x) :: r) g = if h = g then some x else hfind r g := by
  simp only [hfind, nbeq]
  by_cases e : h = g <;> simp [e]
theorem hfind_hset : ∀ (r : Heap) (g : Nat) (x : Bool × Ob) (i : Nat), hfind (hset r g x) i = if g = i then some x else hfind r i
  | [], g, x, i => by simp [hset, hfind_cons, hfind]
  | (h, y) :: r, g, x, i => by
    simp only [hset, nbeq]
    by_cases e : h = g
    · subst e
      simp only [decide_true, hfind_cons]
      split <;> rfl
    · simp only [e, decide_false, hfind_cons, hfind_hset r g x i]
      by_cases e1 : h = i <;> by_cases e2 : g = i <;> simp_all
theorem hfind_hdel : ∀ (r : Heap) (g : Nat) (i : Nat), hfind (hdel r g) i = if g = i then none else hfind r i
  | [], g, i => by simp [hdel, hfind]
  | (h, y) :: r, g, i => by
    simp only [hdel, nbeq]
    by_cases e : h = g
    · subst e
      simp only [decide_true, hfind_cons, hfind_hdel r h i]
      split <;> rfl
    · simp only [e, decide_false, hfind_cons, hfind_hdel r g i]
      by_cases e1 : h = i <;> by_cases e2 : g = i <;> simp_all

/-- what a run stands in: the world at its beginning; which of that world's blocks it may write -/
structure Cx where
  w0 : World
  B : Nat → Prop

/-- the block of a handle that is the run's own: all cells, none frozen, and the place's cells are there -/
def OwnBlock (w : World) (p : Pl) : Prop := ∃ c t, w.heap[p.a.block]? = some (.cells c t (0, 0)) ∧ p.a.off + p.n ≤ c.size ∧ p.a.spot = none

def Ob.own (w : World) (p : Pl) : Ob → Prop
  | .cells .. | .row .. => OwnBlock w p
  | .loop .. | .dfr _ => True
theorem OwnBlock.of_block {w w' : World} {p : Pl} (h : w'.heap[p.a.block]? = w.heap[p.a.block]?) (ho : OwnBlock w p) : OwnBlock w' p := by
  obtain ⟨c, t, h1, h2⟩ := ho
  exact ⟨c, t, by rw [h]; exact h1, h2⟩
theorem Ob.own_of_block {w w' : World} {p : Pl} {o : Ob} (h : w'.heap[p.a.block]? = w.heap[p.a.block]?) (ho : o.own w p) : o.own w' p := by
  cases o with
  | cells t vs => exact OwnBlock.of_block h ho
  | row t k n F => exact OwnBlock.of_block h ho
  | loop => trivial
  | dfr => trivial

/-- the blocks of marks lie as they were made, and no object of the run's own is one of them -/
structure DfrOk (C : Cx) (ρ : Rho) (H : Heap) (w : World) : Prop where
  nd : (ρ.d ++ ρ.o).Nodup
  blk : ∀ b, b ∈ ρ.d ++ ρ.o → w.heap[b]? = some (.deferred (some []))
  own : ∀ b, b ∈ ρ.d ++ ρ.o → C.w0.heap.size ≤ b ∨ C.B b
  sep : ∀ b, b ∈ ρ.d ++ ρ.o → ∀ h own o p, hfind H h = some (own, o) → ρ h = some (some p) → p.a.block ≠ b
structure Rep (C : Cx) (ρ : Rho) (H : Heap) (nx : Nat) (w : World) : Prop where
  obj : ∀ h own o, hfind H h = some (own, o) → ∃ op, ρ h = some op ∧ o.R ρ w op
  own : ∀ h o p, hfind H h = some (true, o) → ρ h = some (some p) → o.own w p ∧ (C.w0.heap.size ≤ p.a.block ∨ C.B p.a.block)
  sep : ∀ h o h' own' o' p p', h ≠ h' → hfind H h = some (true, o) → hfind H h' = some (own', o') → ρ h = some (some p) → ρ h' = some (some p') → p.a.block ≠ p'.a.block
  fresh : ∀ h, nx ≤ h → ρ h = none
  lt : ∀ h p, ρ h = some (some p) → p.a.block < w.heap.size
  size : C.w0.heap.size ≤ w.heap.size
  frame : ∀ b, b < C.w0.heap.size → ¬ C.B b → w.heap[b]? = C.w0.heap[b]?
  os : w.os = C.w0.os
  tape : w.tape = C.w0.tape
  output : w.output = C.w0.output
  dfr : DfrOk C ρ H w

theorem dfr_nil (C : Cx) (f : Nat → Option (Option Pl)) (H : Heap) (w : World) : DfrOk C ⟨f, [], []⟩ H w := ⟨by simp, (fun _ h => by simp at h), (fun _ h => by simp at h), (fun _ h => by simp at h)⟩
theorem hfind_lt {C : Cx} {ρ : Rho} {H : Heap} {nx : Nat} {w : World} (R : Rep C ρ H nx w) {h : Nat} {x : Bool × Ob} (hf : hfind H h = some x) : h < nx := by
  rcases Nat.lt_or_ge h nx with h1 | h1
  · exact h1
  · obtain ⟨op, h2, _⟩ := R.obj h x.1 x.2 hf
    rw [R.fresh h h1] at h2
    cases h2

theorem cell_of_block {w w' : World} {a : Addr} (h : w'.heap[a.block]? = w.heap[a.block]?) : w'.cell? a = w.cell? a := by
  simp only [World.cell?, h]

theorem Addr.add_block (a : Addr) (n : Nat) : (a.add n).block = a.block := by
  simp only [Addr.add]; split <;> rfl
theorem Addr.add_off (a : Addr) (n : Nat) : (a.add n).off = a.off + n := by
  simp only [Addr.add]; split <;> simp_all
theorem Addr.add_spot {a : Addr} (h : a.spot = none) (n : Nat) : (a.add n).spot = none := by
  simp only [Addr.add]; split <;> simp_all
theorem Addr.add_add' (a : Addr) (n m : Nat) : (a.add n).add m = a.add (n + m) := by
  simp only [Addr.add]
  by_cases h1 : n = 0 <;> by_cases h2 : m = 0 <;> simp_all
  omega

theorem Ob.R_of_block {ρ ρ' : Rho} {w w' : World} {o : Ob} {op : Option Pl} (hx : Ext ρ ρ') (hb : ∀ p, op = some p → w'.heap[p.a.block]? = w.heap[p.a.block]?) (h : o.R ρ w op) : o.R ρ' w' op := by
  cases o with
  | cells t vs =>
    obtain ⟨p, rfl, hpn, hc⟩ := h
    refine ⟨p, rfl, hpn, fun j s hs => ?_⟩
    obtain ⟨x, h1, hone, h2⟩ := hc j s hs
    refine ⟨x, ?_, hone, R_mono hx _ _ h2⟩
    rw [cell_of_block (w := w) (by rw [Addr.add_block]; exact hb p rfl)]
    exact h1
  | row t k n F =>
    obtain ⟨h0, hc⟩ := h
    refine ⟨h0, fun e j h1 h2 h3 => ?_⟩
    obtain ⟨p, x, rfl, hcx, hone, hr⟩ := hc e j h1 h2 h3
    refine ⟨p, x, rfl, ?_, hone, R_mono hx _ _ hr⟩
    rw [cell_of_block (w := w) (by rw [Addr.add_block]; exact hb p rfl)]
    exact hcx
  | loop s pend tm ps assign body =>
    obtain ⟨p, rfl, fn, tmps, d, h1, h2⟩ := h
    exact ⟨p, rfl, fn, tmps, d, by rw [hb p rfl]; exact h1, RL_mono hx _ _ h2.1, h2.2⟩
  | dfr opn =>
    obtain ⟨p, rfl, h1⟩ := h
    exact ⟨p, rfl, by rw [hb p rfl]; exact h1⟩

/-- a draw: nothing turns but the count -/
theorem Rep.drew {C : Cx} {ρ : Rho} {H : Heap} {nx : Nat} {w : World} (R : Rep C ρ H nx w) : Rep C ρ H nx { w with drawn := w.drawn + 1 } :=
  ⟨fun h own o hf => let ⟨op, h1, h2⟩ := R.obj h own o hf; ⟨op, h1, Ob.R_of_block (Ext.refl _) (fun _ _ => rfl) h2⟩,
   fun h o p hf hp => let ⟨h1, h2⟩ := R.own h o p hf hp; ⟨Ob.own_of_block (w := w) rfl h1, h2⟩, R.sep, R.fresh, R.lt, R.size, R.frame, R.os, R.tape, R.output, ⟨R.dfr.nd, R.dfr.blk, R.dfr.own, R.dfr.sep⟩⟩

def rset (ρ : Rho) (h : Nat) (x : Option Pl) : Rho := { ρ with f := fun i => if i = h then some x else ρ i }
theorem Ext.rset {ρ : Rho} {h : Nat} (hn : ρ h = none) (x : Option Pl) : Ext ρ (rset ρ h x) := fun i y hi => by
  simp only [Sx.rset]
  split
  · rename_i e; subst e; rw [hn] at hi; cases hi
  · exact hi

theorem heap_alloc_lt (w : World) (o : Obj) (k : Nat) (h : k < w.heap.size) : (w.alloc o).heap[k]? = w.heap[k]? := RowKit.Below.heap_alloc w o k h

theorem block_lt {w : World} {b : Nat} {o : Obj} (h : w.heap[b]? = some o) : b < w.heap.size := by
  rcases Nat.lt_or_ge b w.heap.size with h1 | h1
  · exact h1
  · rw [Array.getElem?_eq_none h1] at h; cases h

theorem cell_lt {w : World} {a : Addr} {x : Value} (h : w.cell? a = some x) : a.block < w.heap.size := World.block_lt_of_cell? _ _ h

/-- where an object with cells lies -/
theorem Ob.R_lt {ρ : Rho} {w : World} {t : TypeId} {vs : List SV} {p : Pl} (h : Ob.R ρ w (.cells t vs) (some p)) (hv : vs ≠ []) : p.a.block < w.heap.size := by
  obtain ⟨q, hq, _, hc⟩ := h
  cases hq
  cases vs with
  | nil => exact absurd rfl hv
  | cons s r =>
    obtain ⟨x, hx, _⟩ := hc 0 s rfl
    have := cell_lt hx
    rwa [Addr.add_block] at this

/-- 'o' may be said of any world whose blocks below 'w''s end are 'w''s -/
theorem Ob.R_grow {ρ ρ' : Rho} {w w' : World} {o : Ob} {op : Option Pl} (hx : Ext ρ ρ') (hb : ∀ b, b < w.heap.size → w'.heap[b]? = w.heap[b]?) (h : o.R ρ w op) : o.R ρ' w' op := by
  cases o with
  | cells t vs =>
    obtain ⟨p, rfl, hpn, hc⟩ := h
    refine ⟨p, rfl, hpn, fun j s hs => ?_⟩
    obtain ⟨x, h1, hone, h2⟩ := hc j s hs
    refine ⟨x, ?_, hone, R_mono hx _ _ h2⟩
    have hl := cell_lt h1
    rw [cell_of_block (w := w) (hb _ hl)]
    exact h1
  | row t k n F =>
    obtain ⟨h0, hc⟩ := h
    refine ⟨h0, fun e j h1 h2 h3 => ?_⟩
    obtain ⟨p, x, rfl, hcx, hone, hr⟩ := hc e j h1 h2 h3
    refine ⟨p, x, rfl, ?_, hone, R_mono hx _ _ hr⟩
    have hl := cell_lt hcx
    rw [cell_of_block (w := w) (hb _ hl)]
    exact hcx
  | loop s pend tm ps assign body =>
    obtain ⟨p, rfl, fn, tmps, d, h1, h2⟩ := h
    exact ⟨p, rfl, fn, tmps, d, by rw [hb _ (block_lt h1)]; exact h1, RL_mono hx _ _ h2.1, h2.2⟩
  | dfr opn =>
    obtain ⟨p, rfl, h1⟩ := h
    exact ⟨p, rfl, by rw [hb _ (block_lt h1)]; exact h1⟩

theorem SV.R_any (ρ : Rho) (v : Value) : SV.R ρ .any v := by simp only [SV.R]

/-- a new block, under the next handle -/
theorem Rep.allocO {C : Cx} {ρ : Rho} {H : Heap} {nx : Nat} {w : World} (R : Rep C ρ H nx w) (x : Obj) (n : Nat) (o : Ob)
    (ho : o.R (rset ρ nx (some ⟨⟨w.heap.size, 0, none⟩, n⟩)) (w.alloc x) (some ⟨⟨w.heap.size, 0, none⟩, n⟩)) (how : o.own (w.alloc x) ⟨⟨w.heap.size, 0, none⟩, n⟩) :
    Rep C (rset ρ nx (some ⟨⟨w.heap.size, 0, none⟩, n⟩)) ((nx, true, o) :: H) (nx + 1) (w.alloc x) := by
  have hn : ρ nx = none := R.fresh nx (Nat.le_refl _)
  have hx := Ext.rset hn (some (⟨⟨w.heap.size, 0, none⟩, n⟩ : Pl))
  have hne : ∀ h p, ρ h = some p → h ≠ nx := fun h p hp e => by subst e; rw [hn] at hp; cases hp
  have old : ∀ h x, hfind H h = some x → h ≠ nx := fun h x hf e => by have := hfind_lt R hf; omega
  have rold : ∀ h, h ≠ nx → rset ρ nx (some ⟨⟨w.heap.size, 0, none⟩, n⟩) h = ρ h := fun h hne => by simp [rset, hne]
  have rnew : rset ρ nx (some ⟨⟨w.heap.size, 0, none⟩, n⟩) nx = some (some ⟨⟨w.heap.size, 0, none⟩, n⟩) := by simp [rset]
  refine ⟨?_, ?_, ?_, ?_, ?_, ?_, ?_, R.os, R.tape, R.output, ⟨R.dfr.nd, fun b hb => ?_, R.dfr.own, fun b hb h own o' p hf hp => ?_⟩⟩
  rotate_left 7
  · have h1 := R.dfr.blk b hb
    rw [heap_alloc_lt _ _ _ (block_lt h1)]
    exact h1
  · have h1 := block_lt (R.dfr.blk b hb)
    rw [hfind_cons] at hf
    split at hf
    · rename_i e; subst e; cases hf
      rw [rnew] at hp; cases hp
      simp only; omega
    · rw [rold h (old h _ hf)] at hp
      exact R.dfr.sep b hb h own o' p hf hp
  · intro h own o' hf
    rw [hfind_cons] at hf
    split at hf
    · rename_i e; subst e; cases hf; exact ⟨_, rnew, ho⟩
    · obtain ⟨op, h1, h2⟩ := R.obj h own o' hf
      exact ⟨op, hx _ _ h1, Ob.R_grow hx (fun b hb => heap_alloc_lt w _ b hb) h2⟩
  · intro h o' p hf hp
    rw [hfind_cons] at hf
    split at hf
    · rename_i e; subst e; cases hf
      rw [rnew] at hp; cases hp
      exact ⟨how, .inl R.size⟩
    · rw [rold h (old h _ hf)] at hp
      obtain ⟨h1, h4⟩ := R.own h o' p hf hp
      exact ⟨Ob.own_of_block (heap_alloc_lt _ _ _ (R.lt h p hp)) h1, h4⟩
  · intro h o1 h' own' o2 p p' hne' hf hf' hp hp'
    rw [hfind_cons] at hf hf'
    split at hf
    · rename_i e; subst e; cases hf
      rw [if_neg hne'] at hf'
      rw [rnew] at hp; cases hp
      rw [rold h' (old h' _ hf')] at hp'
      have := R.lt h' p' hp'
      simp; omega
    · split at hf'
      · rename_i e; subst e; cases hf'
        rw [rnew] at hp'; cases hp'
        rw [rold h (old h _ hf)] at hp
        have := R.lt h p hp
        simp; omega
      · rw [rold h (old h _ hf)] at hp
        rw [rold h' (old h' _ hf')] at hp'
        exact R.sep h o1 h' own' o2 p p' hne' hf hf' hp hp'
  · intro h hh
    rw [rold h (by omega)]
    exact R.fresh h (by omega)
  · intro h p hp
    by_cases e : h = nx
    · subst e; rw [rnew] at hp; cases hp; simp
    · rw [rold h e] at hp
      have := R.lt h p hp
      simp; omega
  · have := R.size; simp; omega
  · intro b hb hB
    rw [heap_alloc_lt _ _ _ (by have := R.size; omega)]
    exact R.frame b hb hB

theorem Rep.alloc {C : Cx} {ρ : Rho} {H : Heap} {nx : Nat} {w : World} (R : Rep C ρ H nx w) (cs : Array Value) (t : TypeId) (o : Ob)
    (ho : o.R (rset ρ nx (some ⟨⟨w.heap.size, 0, none⟩, cs.size⟩)) (w.alloc (.cells cs t)) (some ⟨⟨w.heap.size, 0, none⟩, cs.size⟩)) :
    Rep C (rset ρ nx (some ⟨⟨w.heap.size, 0, none⟩, cs.size⟩)) ((nx, true, o) :: H) (nx + 1) (w.alloc (.cells cs t)) := by
  refine R.allocO (.cells cs t) cs.size o ho ?_
  have : OwnBlock (w.alloc (.cells cs t)) ⟨⟨w.heap.size, 0, none⟩, cs.size⟩ := ⟨cs, t, (by show (w.heap.push _)[w.heap.size]? = _; simp), by simp, rfl⟩
  cases o with
  | cells t vs => exact this
  | row t k n F => exact this
  | loop => trivial
  | dfr => trivial

/-- blocks other than an own one's are as they were: another symbolic object for that handle -/
theorem Rep.write {C : Cx} {ρ : Rho} {H : Heap} {nx : Nat} {w w' : World} (R : Rep C ρ H nx w) {h : Nat} {o o' : Ob} {p : Pl} (hf : hfind H h = some (true, o)) (hp : ρ h = some (some p))
    (hb : ∀ b, b ≠ p.a.block → w'.heap[b]? = w.heap[b]?) (hs : w'.heap.size = w.heap.size) (how : o'.own w' p) (hos : w'.os = w.os) (htape : w'.tape = w.tape) (hout : w'.output = w.output)
    (ho : o'.R ρ w' (some p)) : Rep C ρ (hset H h (true, o')) nx w' := by
  have hown := (R.own h o p hf hp).2
  refine ⟨?_, ?_, ?_, R.fresh, ?_, ?_, ?_, hos.trans R.os, htape.trans R.tape, hout.trans R.output, ⟨R.dfr.nd, fun b hb' => ?_, R.dfr.own, fun b hb' i own x q hi hq => ?_⟩⟩
  rotate_left 6
  · rw [hb b (fun e => R.dfr.sep b hb' h true o p hf hp e.symm)]
    exact R.dfr.blk b hb'
  · rw [hfind_hset] at hi
    split at hi
    · rename_i e; subst e; cases hi
      exact R.dfr.sep b hb' _ true o q hf hq
    · exact R.dfr.sep b hb' i own x q hi hq
  · intro i own x hi
    rw [hfind_hset] at hi
    split at hi
    · rename_i e; subst e; cases hi; exact ⟨_, hp, ho⟩
    · rename_i e
      obtain ⟨op, h1, h2⟩ := R.obj i own x hi
      exact ⟨op, h1, Ob.R_of_block (Ext.refl _) (fun q hq => hb _ (by subst hq; exact fun e2 => R.sep h o i own x p q e hf hi hp h1 e2.symm)) h2⟩
  · intro i x q hi hq
    rw [hfind_hset] at hi
    split at hi
    · rename_i e; subst e; cases hi
      rw [hp] at hq; cases hq
      exact ⟨how, hown⟩
    · rename_i e
      obtain ⟨h1, h4⟩ := R.own i x q hi hq
      exact ⟨Ob.own_of_block (hb _ (fun e2 => R.sep h o i true x p q e hf hi hp hq e2.symm)) h1, h4⟩
  · intro i x i' own' x' q q' hne hi hi' hq hq'
    rw [hfind_hset] at hi hi'
    split at hi <;> split at hi'
    · rename_i e1 e2; exact absurd (e1.symm.trans e2) hne
    · rename_i e1 e2; subst e1; exact R.sep h o i' own' x' q q' hne hf hi' hq hq'
    · rename_i e1 e2; subst e2; cases hi'; exact R.sep i x h true o q q' hne hi hf hq hq'
    · exact R.sep i x i' own' x' q q' hne hi hi' hq hq'
  · intro i q hq; rw [hs]; exact R.lt i q hq
  · rw [hs]; exact R.size
  · intro b hb' hB
    rw [hb b (fun e => by subst e; rcases hown with h1 | h1 <;> first | omega | exact hB h1)]
    exact R.frame b hb' hB

/-- the marks told otherwise -/
theorem Rep.marks {C : Cx} {ρ : Rho} {H : Heap} {nx : Nat} {w : World} (R : Rep C ρ H nx w) (d o : List Nat) (h : (d ++ o).Sublist (ρ.d ++ ρ.o)) : Rep C ⟨ρ.f, d, o⟩ H nx w :=
  have hx : Ext ρ ⟨ρ.f, d, o⟩ := fun _ _ h => h
  ⟨fun i own x hf => let ⟨op, h1, h2⟩ := R.obj i own x hf; ⟨op, h1, Ob.R_of_block hx (fun _ _ => rfl) h2⟩, R.own, R.sep, R.fresh, R.lt, R.size, R.frame, R.os, R.tape, R.output,
   ⟨h.nodup R.dfr.nd, fun b hb => R.dfr.blk b (h.subset hb), fun b hb => R.dfr.own b (h.subset hb), fun b hb => R.dfr.sep b (h.subset hb)⟩⟩
/-- a mark that is made -/
theorem Rep.defer {C : Cx} {ρ : Rho} {H : Heap} {nx : Nat} {w : World} (R : Rep C ρ H nx w) : Rep C ⟨ρ.f, w.heap.size :: ρ.d, ρ.o⟩ H nx (w.alloc (.deferred (some []))) := by
  have hx : Ext ρ ⟨ρ.f, w.heap.size :: ρ.d, ρ.o⟩ := fun _ _ h => h
  have hlt : ∀ b, b ∈ ρ.d ++ ρ.o → b < w.heap.size := fun b hb => block_lt (R.dfr.blk b hb)
  refine ⟨fun i own x hf => ?_, fun i x p hf hp => ?_, R.sep, R.fresh, fun i p hp => ?_, ?_, fun c hc hB => ?_, R.os, R.tape, R.output,
    ⟨List.nodup_cons.2 ⟨fun hb => by have := hlt _ hb; omega, R.dfr.nd⟩, fun c hc => ?_, fun c hc => ?_, fun c hc i own x p hf hp => ?_⟩⟩
  · obtain ⟨op, h1, h2⟩ := R.obj i own x hf
    exact ⟨op, h1, Ob.R_grow hx (fun b hb => heap_alloc_lt w _ b hb) h2⟩
  · obtain ⟨h1, h2⟩ := R.own i x p hf hp
    exact ⟨Ob.own_of_block (heap_alloc_lt _ _ _ (R.lt i p hp)) h1, h2⟩
  · have := R.lt i p hp
    simp; omega
  · have := R.size
    simp; omega
  · rw [heap_alloc_lt _ _ _ (by have := R.size; omega)]
    exact R.frame c hc hB
  · rcases List.mem_cons.1 hc with rfl | hc
    · show (w.heap.push _)[w.heap.size]? = _
      simp
    · have h1 := R.dfr.blk c hc
      rw [heap_alloc_lt _ _ _ (block_lt h1)]
      exact h1
  · rcases List.mem_cons.1 hc with rfl | hc
    · exact .inl R.size
    · exact R.dfr.own c hc
  · rcases List.mem_cons.1 hc with rfl | hc
    · have := R.lt i p hp
      omega
    · exact R.dfr.sep c hc i own x p hf hp
/-- a mark that has been taken -/
theorem Rep.undefer {C : Cx} {ρ : Rho} {H : Heap} {nx : Nat} {w w' : World} (R : Rep C ρ H nx w) {b : Nat} {r : List Nat} (hd : ρ.d = b :: r)
    (hb : ∀ c, c ≠ b → w'.heap[c]? = w.heap[c]?) (hs : w'.heap.size = w.heap.size) (hos : w'.os = w.os) (htape : w'.tape = w.tape) (hout : w'.output = w.output) : Rep C ⟨ρ.f, r, ρ.o⟩ H nx w' := by
  have hx : Ext ρ ⟨ρ.f, r, ρ.o⟩ := fun _ _ h => h
  have hmem : b ∈ ρ.d ++ ρ.o := by rw [hd]; simp
  have hsub : ∀ c, c ∈ r ++ ρ.o → c ∈ ρ.d ++ ρ.o := fun c hc => by rw [hd]; exact List.mem_cons_of_mem _ hc
  have hnd : b ∉ r ++ ρ.o ∧ (r ++ ρ.o).Nodup := by
    have := R.dfr.nd
    rw [hd] at this
    exact List.nodup_cons.1 this
  refine ⟨fun i own x hf => ?_, fun i x p hf hp => ?_, R.sep, R.fresh, fun i p hp => by rw [hs]; exact R.lt i p hp, by rw [hs]; exact R.size, fun c hc hB => ?_, hos.trans R.os, htape.trans R.tape, hout.trans R.output,
    ⟨hnd.2, fun c hc => ?_, fun c hc => R.dfr.own c (hsub c hc), fun c hc => R.dfr.sep c (hsub c hc)⟩⟩
  · obtain ⟨op, h1, h2⟩ := R.obj i own x hf
    exact ⟨op, h1, Ob.R_of_block hx (fun p hp => hb _ (by subst hp; exact R.dfr.sep b hmem i own x p hf h1)) h2⟩
  · obtain ⟨h1, h2⟩ := R.own i x p hf hp
    exact ⟨Ob.own_of_block (hb _ (R.dfr.sep b hmem i true x p hf hp)) h1, h2⟩
  · rw [hb c (fun e => by subst e; rcases R.dfr.own c hmem with h1 | h1 <;> first | omega | exact hB h1)]
    exact R.frame c hc hB
  · rw [hb c (fun e => by subst e; exact hnd.1 hc)]
    exact R.dfr.blk c (hsub c hc)

theorem hfind_cell {C : Cx} {ρ : Rho} {H : Heap} {nx : Nat} {w : World} (R : Rep C ρ H nx w) {h : Nat} {own : Bool} {o : Ob} (hf : hfind H h = some (own, o)) {p : Pl} (hp : ρ h = some (some p)) : o.R ρ w (some p) := by
  obtain ⟨op, h1, h2⟩ := R.obj h own o hf
  rw [hp] at h1; cases h1
  exact h2

end Go.Sx
