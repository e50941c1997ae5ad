/- The example of the chapter, with any fuel that is enough. -/
import Derived.Test.YtimfbnojmdnlnaaGreatKEvB
import Derived.Test.YtimfbnojmdnlnaaGreatKLaH
set_option linter.unusedVariables false
set_option linter.unusedSimpArgs false
set_option maxRecDepth 100000
namespace Go.Proofs.YtimfbnojmdnlnaaGreat
namespace AM
theorem awake_fuel (k : Nat) : callN theEnv (k + 300) (.fn 12) [] [] = some (.ret (.bool true), []) := by kernel_rfl
theorem awake_ev : EvC theEnv 12 [] (.bool true) := ⟨300, fun j hj => by
 obtain ⟨k, rfl⟩ : ∃ k, j = k + 300 := ⟨j - 300, by omega⟩
 exact awake_fuel k⟩
end AM
end Go.Proofs.YtimfbnojmdnlnaaGreat
