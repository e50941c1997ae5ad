/- Every tree is like itself. -/
import Derived.Test.YtimfbnojmdnlnaaGreatKSbP
set_option linter.unusedVariables false
set_option linter.unusedSimpArgs false
set_option maxRecDepth 100000
namespace Go.Proofs.YtimfbnojmdnlnaaGreat
namespace AM
namespace Wp
theorem refl_R {α : Type} {enc : α → List V} {l : List α} (h : ∀ x ∈ l, eqvL (enc x) (enc x) = true) : eqvR (l.map enc) (l.map enc) = true := by
 refine eqvR_all rfl fun i x y hx hy => ?_
 rw [hx] at hy; cases hy
 obtain ⟨a, ha, rfl⟩ := List.mem_map.1 (List.mem_of_getElem? hx)
 exact h a ha
theorem refl_Lin (a : Lin) : eqvL (encLin a) (encLin a) = true := by rw [eqv_Lin, refl_R fun x _ => by simp [eqv_I]]; simp
theorem refl_Ref (a : Ref) : eqvL (encRef a) (encRef a) = true := by rw [eqv_Ref, refl_R fun x _ => refl_Lin x]; simp
theorem refl_Exp : ∀ a : Exp, eqvL (encExp a) (encExp a) = true := Exp.ind fun x ih => by rw [eqv_Exp, refl_R ih, refl_Lin, refl_Ref]; simp
theorem refl_Rw (a : Rw) : eqvL (encRw a) (encRw a) = true := by rw [eqv_Rw, refl_Lin]; simp
theorem refl_Part (a : Part) : eqvL (encPart a) (encPart a) = true := by rw [eqv_Part, refl_R fun x _ => refl_Rw x]
theorem refl_Bound (a : Bound) : eqvL (encBound a) (encBound a) = true := by rw [eqv_Bound, refl_R fun x _ => refl_Part x]
theorem refl_Cnd (a : Cnd) : eqvL (encCnd a) (encCnd a) = true := by rw [eqv_Cnd, refl_Lin]; simp
theorem refl_Piece (a : Piece) : eqvL (encPiece a) (encPiece a) = true := by rw [eqv_Piece, refl_R fun x _ => refl_Cnd x]
theorem refl_PSet (a : PSet) : eqvL (encPSet a) (encPSet a) = true := by rw [eqv_PSet, refl_R fun x _ => refl_Piece x]; simp
theorem refl_Stm : ∀ a : Stm, eqvL (encStm a) (encStm a) = true := Stm.ind fun x ihb ihe => by rw [eqv_Stm, refl_R ihb, refl_R ihe, refl_Bound, refl_Bound, refl_PSet, refl_Ref, refl_Exp]; simp
end Wp
end AM
end Go.Proofs.YtimfbnojmdnlnaaGreat
