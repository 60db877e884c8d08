/-
  No cell of these rows narrows 'for every input' (looked for: loops, veiled, ifaces, maps, wideKeys, modest, calm, conditions, laid).
  DERIVED. THE GIVEN ROWS OF THIS SEAT. 5 by the template 'for every input the law returns true; each argument reads behind the call as it read before'; 0 by the template 'total and deterministic' (their statements: YtpkapjlcmoikoaaTotals.lean).
  GIVEN WITH THE SEED: the statements are not yours to turn. If you find one false, say at which input.
  Laid BY PROGRAM, IN A SANDBOX (cutbox-rows.mjs): the forced cells as the released guide's own fill.sh prints them over the translation 6531e63c56b2369e… (all of the seat's roots in one cut). By AI agents, Wed Nov 11 2026. No macro, syntax, notation, axiom, sorry.
-/
import Derived.Test.YtpkapjlcmoikoaaChecked
import GoSem.Claim
import GoSem.ClaimJoined
import GoSem.ClaimMapViews
import Derived.JoinedTies
import Derived.KernelRfl
namespace Go.Proofs.Ytpkapjlcmoikoaa
/- THE CELL 'sum', in the pinned program and in every row, IS THE sha256 OF THE DUMP (.gsa) THAT YtpkapjlcmoikoaaProg.lean LOADS. Nothing in Lean hashes anything: it is a label: what it is worth is what the hold of that sum in a sandbox is worth. -/
noncomputable def Try.pinned : Pinned := { name := "ytpkapjlcmoikoaa", sum := "6531e63c56b2369e9f2523f708ee430573ff57c992c62a2b6a8396db13befad6", checked := Try.checked }
namespace Rows
def none {H : Type} : Left H := { results := [], args := [] }

/-- 'tenementlaw32.SpansApart': WHATEVER THE INPUT: true; the input reads as it did. -/
def spansApartSpec : ChangeSpec := { name := "spansApart", fn := fun _ => fun
  | [d1, d2] => { results := [.lit (.bool true)], args := [d1, d2] }
  | _ => none }
def spansApartRow : OpenClaim := { program := "ytpkapjlcmoikoaa", sum := "6531e63c56b2369e9f2523f708ee430573ff57c992c62a2b6a8396db13befad6", func := "tenement/tenementlaw32.SpansApart", spec := "spansApart", unfollowed := true, recurses := true, apart := false }
def SpansApartSaid : Prop := spansApartRow.holds Try.pinned (OpenSpec.ofChange spansApartSpec)

/-- ITS FALSE NEIGHBOUR: 'it returns false'. Refute it at one input. -/
def spansApartWrong : ChangeSpec := { name := "spansApart", fn := fun _ => fun
  | [d1, d2] => { results := [.lit (.bool false)], args := [d1, d2] }
  | _ => none }
def SpansApartWrongFalsely : Prop := spansApartRow.holds Try.pinned (OpenSpec.ofChange spansApartWrong)

/-- 'tenementlaw32.SpansLater': WHATEVER THE INPUT: true; the input reads as it did. -/
def spansLaterSpec : ChangeSpec := { name := "spansLater", fn := fun _ => fun
  | [d1, d2, d3] => { results := [.lit (.bool true)], args := [d1, d2, d3] }
  | _ => none }
def spansLaterRow : OpenClaim := { program := "ytpkapjlcmoikoaa", sum := "6531e63c56b2369e9f2523f708ee430573ff57c992c62a2b6a8396db13befad6", func := "tenement/tenementlaw32.SpansLater", spec := "spansLater", unfollowed := true, recurses := true, apart := false }
def SpansLaterSaid : Prop := spansLaterRow.holds Try.pinned (OpenSpec.ofChange spansLaterSpec)

/-- ITS FALSE NEIGHBOUR: 'it returns false'. Refute it at one input. -/
def spansLaterWrong : ChangeSpec := { name := "spansLater", fn := fun _ => fun
  | [d1, d2, d3] => { results := [.lit (.bool false)], args := [d1, d2, d3] }
  | _ => none }
def SpansLaterWrongFalsely : Prop := spansLaterRow.holds Try.pinned (OpenSpec.ofChange spansLaterWrong)

/-- 'tenementlaw32.SpansCut': WHATEVER THE INPUT: true; the input reads as it did. -/
def spansCutSpec : ChangeSpec := { name := "spansCut", fn := fun _ => fun
  | [d1, d2, d3] => { results := [.lit (.bool true)], args := [d1, d2, d3] }
  | _ => none }
def spansCutRow : OpenClaim := { program := "ytpkapjlcmoikoaa", sum := "6531e63c56b2369e9f2523f708ee430573ff57c992c62a2b6a8396db13befad6", func := "tenement/tenementlaw32.SpansCut", spec := "spansCut", unfollowed := true, recurses := true, apart := false }
def SpansCutSaid : Prop := spansCutRow.holds Try.pinned (OpenSpec.ofChange spansCutSpec)

/-- ITS FALSE NEIGHBOUR: 'it returns false'. Refute it at one input. -/
def spansCutWrong : ChangeSpec := { name := "spansCut", fn := fun _ => fun
  | [d1, d2, d3] => { results := [.lit (.bool false)], args := [d1, d2, d3] }
  | _ => none }
def SpansCutWrongFalsely : Prop := spansCutRow.holds Try.pinned (OpenSpec.ofChange spansCutWrong)

/-- 'tenementlaw32.SpansCount': WHATEVER THE INPUT: true; the input reads as it did. -/
def spansCountSpec : ChangeSpec := { name := "spansCount", fn := fun _ => fun
  | [d1, d2] => { results := [.lit (.bool true)], args := [d1, d2] }
  | _ => none }
def spansCountRow : OpenClaim := { program := "ytpkapjlcmoikoaa", sum := "6531e63c56b2369e9f2523f708ee430573ff57c992c62a2b6a8396db13befad6", func := "tenement/tenementlaw32.SpansCount", spec := "spansCount", unfollowed := true, recurses := true, apart := false }
def SpansCountSaid : Prop := spansCountRow.holds Try.pinned (OpenSpec.ofChange spansCountSpec)

/-- ITS FALSE NEIGHBOUR: 'it returns false'. Refute it at one input. -/
def spansCountWrong : ChangeSpec := { name := "spansCount", fn := fun _ => fun
  | [d1, d2] => { results := [.lit (.bool false)], args := [d1, d2] }
  | _ => none }
def SpansCountWrongFalsely : Prop := spansCountRow.holds Try.pinned (OpenSpec.ofChange spansCountWrong)

/-- 'tenementlaw32.SpansTell': WHATEVER THE INPUT: true; the input reads as it did. -/
def spansTellSpec : ChangeSpec := { name := "spansTell", fn := fun _ => fun
  | [d1, d2, d3, d4, d5] => { results := [.lit (.bool true)], args := [d1, d2, d3, d4, d5] }
  | _ => none }
def spansTellRow : OpenClaim := { program := "ytpkapjlcmoikoaa", sum := "6531e63c56b2369e9f2523f708ee430573ff57c992c62a2b6a8396db13befad6", func := "tenement/tenementlaw32.SpansTell", spec := "spansTell", unfollowed := true, recurses := true, apart := false }
def SpansTellSaid : Prop := spansTellRow.holds Try.pinned (OpenSpec.ofChange spansTellSpec)

/-- ITS FALSE NEIGHBOUR: 'it returns false'. Refute it at one input. -/
def spansTellWrong : ChangeSpec := { name := "spansTell", fn := fun _ => fun
  | [d1, d2, d3, d4, d5] => { results := [.lit (.bool false)], args := [d1, d2, d3, d4, d5] }
  | _ => none }
def SpansTellWrongFalsely : Prop := spansTellRow.holds Try.pinned (OpenSpec.ofChange spansTellWrong)

/- THE SECOND FORM. 'bulk': how many values and letters a reading holds, each counted each time it is reached (what is shared counts as often as it is met; a slice's spare places count too). A statement '..UptoSaid' is the law's where the arguments, and the package variables that the reading takes, are together of bulk at most 1048576: NARROWER than '..Said'. Prove '..Said' where nothing that the law and all that it calls make is longer than what came in: it says more and counts as full. Else prove '..UptoSaid'. A law counts once. -/
mutual
def uptoBulk {H : Type} : DataW H → Nat
  | .lit (.string bytes) => bytes.length + 1
  | .lit _ => 1
  | .nil => 1
  | .ptr d => uptoBulk d + 1
  | .slice elems spare => uptoBulkAll elems + uptoBulkAll spare + 1
  | .agg parts => uptoBulkAll parts + 1
  | .iface _ d => uptoBulk d + 1
  | .map entries => uptoBulkEntries entries + 1
  | .held _ => 1
def uptoBulkAll {H : Type} : List (DataW H) → Nat
  | [] => 0
  | d :: r => uptoBulk d + uptoBulkAll r
def uptoBulkEntries {H : Type} : List (Lit × DataW H) → Nat
  | [] => 0
  | x :: r => uptoBulkEntry x + uptoBulkEntries r
def uptoBulkEntry {H : Type} : Lit × DataW H → Nat
  | (.string bytes, d) => bytes.length + uptoBulk d + 1
  | (_, d) => uptoBulk d + 1
 end
def uptoSmall : (H : Type) → List (DataW H) → Bool := fun _ ds => decide (uptoBulkAll ds ≤ 1048576)
def OpenSpec.upto (s : _root_.Go.ChangeSpec) : _root_.Go.OpenSpec := { _root_.Go.OpenSpec.ofChange s with cond := some uptoSmall }

/-- 'tenementlaw32.SpansApart', WHERE WHAT IT READS IS OF BULK AT MOST 1048576: true; the input reads as it did. -/
def spansApartUptoRow : OpenClaim := { program := "ytpkapjlcmoikoaa", sum := "6531e63c56b2369e9f2523f708ee430573ff57c992c62a2b6a8396db13befad6", func := "tenement/tenementlaw32.SpansApart", spec := "spansApart", unfollowed := true, recurses := true, apart := false, narrowed := true }
def SpansApartUptoSaid : Prop := spansApartUptoRow.holds Try.pinned (OpenSpec.upto spansApartSpec)

/-- 'tenementlaw32.SpansLater', WHERE WHAT IT READS IS OF BULK AT MOST 1048576: true; the input reads as it did. -/
def spansLaterUptoRow : OpenClaim := { program := "ytpkapjlcmoikoaa", sum := "6531e63c56b2369e9f2523f708ee430573ff57c992c62a2b6a8396db13befad6", func := "tenement/tenementlaw32.SpansLater", spec := "spansLater", unfollowed := true, recurses := true, apart := false, narrowed := true }
def SpansLaterUptoSaid : Prop := spansLaterUptoRow.holds Try.pinned (OpenSpec.upto spansLaterSpec)

/-- 'tenementlaw32.SpansCut', WHERE WHAT IT READS IS OF BULK AT MOST 1048576: true; the input reads as it did. -/
def spansCutUptoRow : OpenClaim := { program := "ytpkapjlcmoikoaa", sum := "6531e63c56b2369e9f2523f708ee430573ff57c992c62a2b6a8396db13befad6", func := "tenement/tenementlaw32.SpansCut", spec := "spansCut", unfollowed := true, recurses := true, apart := false, narrowed := true }
def SpansCutUptoSaid : Prop := spansCutUptoRow.holds Try.pinned (OpenSpec.upto spansCutSpec)

/-- 'tenementlaw32.SpansCount', WHERE WHAT IT READS IS OF BULK AT MOST 1048576: true; the input reads as it did. -/
def spansCountUptoRow : OpenClaim := { program := "ytpkapjlcmoikoaa", sum := "6531e63c56b2369e9f2523f708ee430573ff57c992c62a2b6a8396db13befad6", func := "tenement/tenementlaw32.SpansCount", spec := "spansCount", unfollowed := true, recurses := true, apart := false, narrowed := true }
def SpansCountUptoSaid : Prop := spansCountUptoRow.holds Try.pinned (OpenSpec.upto spansCountSpec)

/-- 'tenementlaw32.SpansTell', WHERE WHAT IT READS IS OF BULK AT MOST 1048576: true; the input reads as it did. -/
def spansTellUptoRow : OpenClaim := { program := "ytpkapjlcmoikoaa", sum := "6531e63c56b2369e9f2523f708ee430573ff57c992c62a2b6a8396db13befad6", func := "tenement/tenementlaw32.SpansTell", spec := "spansTell", unfollowed := true, recurses := true, apart := false, narrowed := true }
def SpansTellUptoSaid : Prop := spansTellUptoRow.holds Try.pinned (OpenSpec.upto spansTellSpec)

end Rows
end Go.Proofs.Ytpkapjlcmoikoaa
