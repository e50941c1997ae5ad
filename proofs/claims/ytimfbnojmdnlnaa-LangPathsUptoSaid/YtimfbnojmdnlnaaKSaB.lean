/- The example of the chapter, with any fuel that is enough. -/
import Derived.Test.YtimfbnojmdnlnaaKEvB
import Derived.Test.YtimfbnojmdnlnaaKLaH
set_option linter.unusedVariables false
set_option linter.unusedSimpArgs false
set_option maxRecDepth 100000
namespace Go.Proofs.Ytimfbnojmdnlnaa
namespace AM

theorem awake_fuel (k : Nat) : callN theEnv (k + 300) (.fn 11) [] [] = some (.ret (.bool true), []) := by kernel_rfl
theorem awake_ev : EvC theEnv 11 [] (.bool true) := ⟨300, fun j hj => by
  obtain ⟨k, rfl⟩ : ∃ k, j = k + 300 := ⟨j - 300, by omega⟩
  exact awake_fuel k⟩

end AM
end Go.Proofs.Ytimfbnojmdnlnaa
