import Derived.Test.YtpkapjlcmoikoaaSxW
set_option linter.all false
/-
  Spans, plain, and as rows.
-/
namespace Go.Sx
open Go
structure Sp where
  core : Int
  kind : Int
  frm : Int
  to : Int
  n : Int
deriving Inhabited
def spAt (L : List Sp) (f : Sp → Int) : Int → Int := fun i => f (L.getD i.toNat default)
def spF (L : List Sp) : Nat → E → SV
  | 0, e => .int .i64 (.f1 (spAt L Sp.core) e)
  | 1, e => .int .i8 (.f1 (spAt L Sp.kind) e)
  | 2, e => .int .i64 (.f1 (spAt L Sp.frm) e)
  | 3, e => .int .i64 (.f1 (spAt L Sp.to) e)
  | 4, e => .int .i64 (.f1 (spAt L Sp.n) e)
  | _, _ => .any
theorem spF_le {S : Nat → Option Src} {L : List Sp} : ∀ (e e' : E) (j : Nat), e.i = e'.i → j < 5 → SVle S (spF L j e) (spF L j e')
  | e, e', 0, h, _ => by simp only [spF, SVle]; exact ⟨trivial, ⟨by rw [E.i_f1, E.i_f1, h]⟩⟩
  | e, e', 1, h, _ => by simp only [spF, SVle]; exact ⟨trivial, ⟨by rw [E.i_f1, E.i_f1, h]⟩⟩
  | e, e', 2, h, _ => by simp only [spF, SVle]; exact ⟨trivial, ⟨by rw [E.i_f1, E.i_f1, h]⟩⟩
  | e, e', 3, h, _ => by simp only [spF, SVle]; exact ⟨trivial, ⟨by rw [E.i_f1, E.i_f1, h]⟩⟩
  | e, e', 4, h, _ => by simp only [spF, SVle]; exact ⟨trivial, ⟨by rw [E.i_f1, E.i_f1, h]⟩⟩
  | _, _, j + 5, _, h => by omega
/-- a span's cells -/
def spV (s : Sp) : List Value := [.int .i64 s.core, .int .i8 s.kind, .int .i64 s.frm, .int .i64 s.to, .int .i64 s.n]
theorem spF_R {ρ : Rho} {L : List Sp} {e : E} (h0 : 0 ≤ e.i) (h1 : e.i < L.length) : ∀ (j : Nat), j < 5 → ∀ v, SV.R ρ (spF L j e) v ↔ v = (spV L[e.i.toNat]!)[j]!
  | 0, _, v | 1, _, v | 2, _, v | 3, _, v | 4, _, v => by
    have : e.i.toNat < L.length := by omega
    simp [spF, SV.R, spAt, spV, List.getD, this]
  | j + 5, h, _ => by omega
/-- a row of whole numbers -/
def intRow (cs : Int → Int) : Nat → E → SV := fun _ e => .int .i64 (.f1 cs e)
theorem intRow_le {S : Nat → Option Src} {cs : Int → Int} : ∀ (e e' : E) (j : Nat), e.i = e'.i → j < 1 → SVle S (intRow cs j e) (intRow cs j e') := fun e e' j h _ => ⟨rfl, ⟨by rw [E.i_f1, E.i_f1, h]⟩⟩
def listI (l : List Int) : Int → Int := fun i => l.getD i.toNat 0
end Go.Sx
