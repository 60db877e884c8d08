import Derived.Test.YtpkapjlcmoikoaaSxJ
import Derived.Laws.AppendOwn
set_option linter.all false
/-
  append.
-/
namespace Go.Sx
open Go

/-- an object may be forgotten -/
theorem Rep.del {C : Cx} {ρ : Rho} {H : Heap} {nx : Nat} {w : World} (R : Rep C ρ H nx w) (h : Nat) : Rep C ρ (hdel H h) nx w := by
  have hs : ∀ i x, hfind (hdel H h) i = some x → hfind H i = some x := fun i x hi => by
    rw [hfind_hdel] at hi
    split at hi
    · cases hi
    · exact hi
  exact ⟨fun i own o hi => R.obj i own o (hs _ _ hi), fun i o p hi => R.own i o p (hs _ _ hi), fun i o i' own' o' p p' hne hi hi' => R.sep i o i' own' o' p p' hne (hs _ _ hi) (hs _ _ hi'), R.fresh, R.lt, R.size, R.frame, R.os, R.tape, R.output, ⟨R.dfr.nd, R.dfr.blk, R.dfr.own, fun b hb i own o p hi hp => R.dfr.sep b hb i own o p (hs _ _ hi) hp⟩⟩

/-- an own object goes on under the next handle, its block turned -/
theorem Rep.move {C : Cx} {ρ : Rho} {H : Heap} {nx : Nat} {w w' : World} (R : Rep C ρ H nx w) {h : Nat} {o o' : Ob} {p p' : Pl} (hf : hfind H h = some (true, o)) (hp : ρ h = some (some p)) (hpp : p'.a.block = p.a.block)
    (hb : ∀ b, b ≠ p.a.block → w'.heap[b]? = w.heap[b]?) (hs : w'.heap.size = w.heap.size) (how : o'.own w' p') (hos : w'.os = w.os) (htape : w'.tape = w.tape) (hout : w'.output = w.output)
    (ho : o'.R (rset ρ nx (some p')) w' (some p')) : Rep C (rset ρ nx (some p')) ((nx, true, o') :: hdel H h) (nx + 1) w' := by
  have hown := (R.own h o p hf hp).2
  have hn : ρ nx = none := R.fresh nx (Nat.le_refl _)
  have hx := Ext.rset hn (some p')
  have rnew : rset ρ nx (some p') nx = some (some p') := by simp [rset]
  have rold : ∀ i, i ≠ nx → rset ρ nx (some p') i = ρ i := fun i hne => by simp [rset, hne]
  have hs' : ∀ i x, hfind (hdel H h) i = some x → hfind H i = some x ∧ h ≠ i := fun i x hi => by
    rw [hfind_hdel] at hi
    split at hi
    · cases hi
    · rename_i e; exact ⟨hi, e⟩
  have old : ∀ i x, hfind H i = some x → i ≠ nx := fun i x hf e => by have := hfind_lt R hf; omega
  refine ⟨?_, ?_, ?_, ?_, ?_, ?_, ?_, hos.trans R.os, htape.trans R.tape, hout.trans R.output, ⟨R.dfr.nd, fun b hb' => ?_, R.dfr.own, fun b hb' i own x q hi hq => ?_⟩⟩
  rotate_left 7
  · rw [hb b (fun e => R.dfr.sep b hb' h true o p hf hp e.symm)]
    exact R.dfr.blk b hb'
  · rw [hfind_cons] at hi
    split at hi
    · rename_i e; subst e; cases hi
      rw [rnew] at hq; cases hq
      rw [hpp]
      exact R.dfr.sep b hb' h true o p hf hp
    · obtain ⟨hi, hne⟩ := hs' _ _ hi
      rw [rold i (old _ _ hi)] at hq
      exact R.dfr.sep b hb' i own x q hi hq
  · intro i own x hi
    rw [hfind_cons] at hi
    split at hi
    · rename_i e; subst e; cases hi; exact ⟨_, rnew, ho⟩
    · obtain ⟨hi, hne⟩ := hs' _ _ hi
      obtain ⟨op, h1, h2⟩ := R.obj i own x hi
      exact ⟨op, hx _ _ h1, Ob.R_of_block hx (fun q hq => hb _ (by subst hq; exact fun e2 => R.sep h o i own x p q hne hf hi hp h1 e2.symm)) h2⟩
  · intro i x q hi hq
    rw [hfind_cons] at hi
    split at hi
    · rename_i e; subst e; cases hi
      rw [rnew] at hq; cases hq
      exact ⟨how, by rw [hpp]; exact hown⟩
    · obtain ⟨hi, hne⟩ := hs' _ _ hi
      rw [rold i (old _ _ hi)] at hq
      obtain ⟨h1, h4⟩ := R.own i x q hi hq
      exact ⟨Ob.own_of_block (hb _ (fun e2 => R.sep h o i true x p q hne hf hi hp hq e2.symm)) h1, h4⟩
  · intro i x i' own' x' q q' hne hi hi' hq hq'
    rw [hfind_cons] at hi hi'
    split at hi
    · rename_i e; subst e; cases hi
      rw [if_neg hne] at hi'
      obtain ⟨hi', hne'⟩ := hs' _ _ hi'
      rw [rnew] at hq; cases hq
      rw [rold i' (old _ _ hi')] at hq'
      rw [hpp]
      exact R.sep h o i' own' x' p q' hne' hf hi' hp hq'
    · obtain ⟨hi, hne1⟩ := hs' _ _ hi
      rw [rold i (old _ _ hi)] at hq
      split at hi'
      · rename_i e; subst e; cases hi'
        rw [rnew] at hq'; cases hq'
        rw [hpp]
        exact R.sep i x h true o q p (Ne.symm hne1) hi hf hq hp
      · obtain ⟨hi', hne2⟩ := hs' _ _ hi'
        rw [rold i' (old _ _ hi')] at hq'
        exact R.sep i x i' own' x' q q' hne hi hi' hq hq'
  · intro i hi; rw [rold i (by omega)]; exact R.fresh i (by omega)
  · intro i q hq
    rw [hs]
    by_cases e : i = nx
    · subst e; rw [rnew] at hq; cases hq; rw [hpp]; exact R.lt h p hp
    · rw [rold i e] at hq; exact R.lt i q hq
  · rw [hs]; exact R.size
  · intro b hb' hB
    rw [hb b (fun e => by subst e; rcases hown with h1 | h1 <;> first | omega | exact hB h1)]
    exact R.frame b hb' hB

/-! ### the model's append, of any slice -/
section
variable {P : Program} {t ty e : TypeId} {i : TypeInfo} {z : Value}
theorem run_append_in (ht : P.underlying t = some (.slice e)) (hi : P.info? e = some i) {a : Addr} (hsp : a.spot = none) {sLen sCap n : Nat} {x : Value} {news : List Value} {w : World}
    (hlen : ∀ w, (Builtin.lenOf x).run P w = .ok n w) (hnew : (Builtin.firstCells i.size n x).run P w = .ok news.toArray w)
    (hroom : sLen + n ≤ sCap) (hex : ∀ j, j < news.length → (w.cell? ⟨a.block, a.off + sLen * i.size + j, none⟩).isSome = true) (hfr : ∀ j, j < news.length → w.frozen? ⟨a.block, a.off + sLen * i.size + j, none⟩ = false)
    (h1 : ∀ u ∈ news, u.oneCell' = true) :
    (Builtin.append_ #[t, t] ty #[.slice (some a) sLen sCap, x]).run P w = .ok (.slice (some a) (sLen + n) sCap) (w.setCells a.block (a.off + sLen * i.size) news) := by
  have hst := run_storeCells_cells (P := P) a.block (a.off + sLen * i.size) news 0 w (by simpa using hex) (by simpa using hfr) h1
  have hadr : a.add (sLen * i.size) = ⟨a.block, a.off + sLen * i.size, none⟩ := by
    have h1 := Addr.add_block a (sLen * i.size)
    have h2 := Addr.add_off a (sLen * i.size)
    have h3 := Addr.add_spot hsp (sLen * i.size)
    cases hh : a.add (sLen * i.size)
    simp_all
  simp only [Nat.add_zero] at hst
  simp [Builtin.append_, run_underlying ht, run_size hi, hlen, hroom, hnew, hadr, hst]
theorem run_append_nothing (ht : P.underlying t = some (.slice e)) (hi : P.info? e = some i) {sLen sCap : Nat} {x : Value} {w : World} {base : Option Addr}
    (hlen : ∀ w, (Builtin.lenOf x).run P w = .ok 0 w) (hnew : (Builtin.firstCells i.size 0 x).run P w = .ok #[] w) (hroom : sLen ≤ sCap) :
    (Builtin.append_ #[t, t] ty #[.slice base sLen sCap, x]).run P w = .ok (.slice base sLen sCap) w := by
  cases base with
  | none => simp [Builtin.append_, run_underlying ht, run_size hi, hlen, hroom, hnew]
  | some a => simp [Builtin.append_, run_underlying ht, run_size hi, hlen, hroom, hnew, storeCells]
theorem run_append_new (ht : P.underlying t = some (.slice e)) (hi : P.info? e = some i) (hz : i.zero = some z) {sLen sCap n : Nat} {x : Value} {olds news : List Value} {w : World} {base : Option Addr}
    (hlen : ∀ w, (Builtin.lenOf x).run P w = .ok n w) (hold : (Builtin.firstCells i.size sLen (.slice base sLen sCap)).run P w.drew = .ok olds.toArray w.drew) (hnew : (Builtin.firstCells i.size n x).run P w.drew = .ok news.toArray w.drew)
    (hgrow : sCap < sLen + n) (hbytes : (sLen + n) * i.bytes ≤ 140737488355328) (hb0 : i.bytes ≠ 0) :
    (Builtin.append_ #[t, t] ty #[.slice base sLen sCap, x]).run P w =
      .ok (.slice (some ⟨w.heap.size, 0, none⟩) (sLen + n) (grownCap w (sLen + n) sCap e)) (w.drew.alloc (.cells (olds.toArray ++ news.toArray ++ Builtin.zeroCells z.cells (grownCap w (sLen + n) sCap e - (sLen + n))) e)) := by
  have hroom : ¬ (sLen + n ≤ sCap) := by omega
  have hfits := growslice_fits (need := sLen + n) (old := sCap) (bytes := i.bytes) hgrow hbytes
  have hfits' : ¬ (Builtin.nextslicecap (sLen + n) sCap * i.bytes > 2 ^ 48) := by omega
  have hti : ∀ w, (typeInfo e).run P w = .ok i w := fun w => by simp [typeInfo, hi]
  have hzr : ∀ w, (zeroValue e).run P w = .ok z w := fun w => by simp [zeroValue, typeInfo, hi, hz]
  have hask : ∀ m w, (askRoom m).run P w = .ok () w := fun m w => run_askRoom P w m
  simp only [Builtin.append_, run_underlying ht, run_size hi, hlen, Sem.run_bind, Result.andThen_ok, Sem.run_pure, List.getElem?_toArray, List.getElem?_cons_zero, List.getElem?_cons_succ, Bool.false_eq_true, if_false, hroom]
  simp [hti, hfits', hask, hold, hnew, hzr, newRow, run_newObj, hb0, Question.forced, grownCap]
  congr 2
  rw [← Array.append_assoc]
  simp
end

end Go.Sx
