/- Fresh memories are small. -/
import Derived.Test.YtimfbnojmdnlnaaGreatKM45
set_option linter.unusedVariables false
set_option linter.unusedSimpArgs false
set_option maxRecDepth 100000
namespace Go.Proofs.YtimfbnojmdnlnaaGreat
namespace AM
namespace Wp
theorem memV_eq (l : List (List Int)) : memV true l = .slice (nk false) ((l.map fun r => (⟨false, r⟩ : Mem)).map encMem) := by
 simp [memV, nk]
theorem freshFrom_small {s : Int} : ∀ {l : List Int} {a : Nat}, (∀ n ∈ l, n ≤ 4096) → ∀ r ∈ freshFrom s a l, r.length ≤ 4096
 | [], _, _, r, h => by simp [freshFrom] at h
 | n :: l, a, hn, r, h => by
  simp only [freshFrom, List.mem_cons] at h
  rcases h with rfl | h
  ·have := hn n (by simp)
   simp [freshRow]; omega
  ·exact freshFrom_small (fun m hm => hn m (List.mem_cons_of_mem _ hm)) r h
theorem fresh_mem {p : Prg} {ps : List Int} (he : askErr p ps = 0) (s : Int) : (freshFrom s 0 (cellsL p ps)).length ≤ 8 ∧ ∀ r ∈ freshFrom s 0 (cellsL p ps), r.length ≤ 4096 := by
 obtain ⟨hc, hl, hin, hsh, _⟩ := ask_in he
 have hag := cells_agree hc hsh
 have h8 : p.arrays.length ≤ 8 := (chk_head hc).2.1
 refine ⟨by rw [freshFrom_len]; simp [cellsL, shapesOf]; exact h8, freshFrom_small fun n hn => ?_⟩
 have : cellsL p ps = rcOf ps p.arrays := hag.1
 rw [this] at hn
 exact (hag.2 n hn).2
end Wp
end AM
end Go.Proofs.YtimfbnojmdnlnaaGreat
