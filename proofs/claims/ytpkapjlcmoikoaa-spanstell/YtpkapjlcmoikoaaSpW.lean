import Derived.Test.YtpkapjlcmoikoaaSpA
set_option linter.all false
/-
  The closed run at each law's end.
-/
namespace Go.Sx
open Go
def X1 : Cfg := ⟨(List.range 83).drop 3, [], true⟩
set_option maxRecDepth 100000
theorem wakes_run (O : Obs) : runCall PP O.full X1 3000 8 [] [] 0 yes = True := by kernel_rfl
theorem wakes_ok (C : Cx) : SndCall PP C 8 [] [] 0 yes :=
  ((sound (X := X1) (O := ⟨LoopOb PP C, CallOb PP C, fun _ => none, fun _ => none⟩) ⟨fun h => h.h, fun h => h.h⟩ m1 (by decide +kernel) (by decide +kernel) 3000).call 8 [] [] 0 yes (by rw [show (⟨LoopOb PP C, CallOb PP C, fun _ => none, fun _ => none⟩ : ObsP) = Obs.full ⟨LoopOb PP C, CallOb PP C⟩ from rfl, wakes_run]; trivial)).1
end Go.Sx
