/- The law LangSame, on trees. -/
import Derived.Test.YtimfbnojmdnlnaaKSbR
import Derived.Test.YtimfbnojmdnlnaaKSbM
import Derived.Test.YtimfbnojmdnlnaaKSbN
set_option linter.unusedVariables false
set_option linter.unusedSimpArgs false
set_option maxRecDepth 100000
namespace Go.Proofs.Ytimfbnojmdnlnaa
namespace AM
namespace Wp
open Go.RowKit Go.ChangeShapes Go.WideShapes Go.ChangeAt
theorem refl_R {α : Type} {enc : α → List V} {l : List α} (h : ∀ x ∈ l, eqvL (enc x) (enc x) = true) : eqvR (l.map enc) (l.map enc) = true := by
  refine eqvR_all rfl fun i x y hx hy => ?_
  rw [hx] at hy; cases hy
  obtain ⟨a, ha, rfl⟩ := List.mem_map.1 (List.mem_of_getElem? hx)
  exact h a ha
theorem refl_Lin (a : Lin) : eqvL (encLin a) (encLin a) = true := by rw [eqv_Lin, refl_R fun x _ => by simp [eqv_I]]; simp
theorem refl_Ref (a : Ref) : eqvL (encRef a) (encRef a) = true := by rw [eqv_Ref, refl_R fun x _ => refl_Lin x]; simp
theorem refl_Exp : ∀ a : Exp, eqvL (encExp a) (encExp a) = true := Exp.ind fun x ih => by rw [eqv_Exp, refl_R ih, refl_Lin, refl_Ref]; simp
theorem refl_Rw (a : Rw) : eqvL (encRw a) (encRw a) = true := by rw [eqv_Rw, refl_Lin]; simp
theorem refl_Part (a : Part) : eqvL (encPart a) (encPart a) = true := by rw [eqv_Part, refl_R fun x _ => refl_Rw x]
theorem refl_Bound (a : Bound) : eqvL (encBound a) (encBound a) = true := by rw [eqv_Bound, refl_R fun x _ => refl_Part x]
theorem refl_Cnd (a : Cnd) : eqvL (encCnd a) (encCnd a) = true := by rw [eqv_Cnd, refl_Lin]; simp
theorem refl_Piece (a : Piece) : eqvL (encPiece a) (encPiece a) = true := by rw [eqv_Piece, refl_R fun x _ => refl_Cnd x]
theorem refl_PSet (a : PSet) : eqvL (encPSet a) (encPSet a) = true := by rw [eqv_PSet, refl_R fun x _ => refl_Piece x]; simp
theorem refl_Stm : ∀ a : Stm, eqvL (encStm a) (encStm a) = true := Stm.ind fun x ihb ihe => by rw [eqv_Stm, refl_R ihb, refl_R ihe, refl_Bound, refl_Bound, refl_PSet, refl_Ref, refl_Exp]; simp
theorem refl_Arr (a : Arr) : eqvL (encArr a) (encArr a) = true := by rw [eqv_Arr, refl_R fun x _ => refl_Lin x]; simp
theorem refl_Prg (a : Prg) : eqvL (encPrg a) (encPrg a) = true := by rw [eqv_Prg, refl_R fun x _ => by simp [eqv_S], refl_R fun x _ => refl_Arr x, refl_R fun x _ => refl_Stm x]; simp
theorem same_ok {p q : Prg} (hp : OkPrg p) (hq : OkPrg q) : Sp theEnv 5 [.agg (encPrg p), .agg (encPrg q)] (.bool true) := by
  refine Sp.fn rfl rfl rfl (by simp only [go_sem, Nat.reduceEqDiff, Nat.reduceAdd, Nat.reduceLeDiff, Nat.reduceMul, Nat.reduceSub, Int.reduceLT, Int.reduceLE, Int.reduceEq, Int.reduceAdd, Int.reduceNeg, reduceIte, reduceCtorEq, Nat.reduceLT]) (by simp only [go_sem, Nat.reduceEqDiff, Nat.reduceAdd, Nat.reduceLeDiff, Nat.reduceMul, Nat.reduceSub, Int.reduceLT, Int.reduceLE, Int.reduceEq, Int.reduceAdd, Int.reduceNeg, reduceIte, reduceCtorEq, Nat.reduceLT, implies_true]) fun S => ?_; simp only [a5, c5, go_sem, Nat.reduceEqDiff, Nat.reduceAdd, Nat.reduceLeDiff, Nat.reduceMul, Nat.reduceSub, Int.reduceLT, Int.reduceLE, Int.reduceEq, Int.reduceAdd, Int.reduceNeg, reduceIte, reduceCtorEq, Nat.reduceLT]
  rw [(few_ok hp 3000).call]
  simp only [go_sem, Nat.reduceEqDiff, Nat.reduceAdd, Nat.reduceLeDiff, Nat.reduceMul, Nat.reduceSub, Int.reduceLT, Int.reduceLE, Int.reduceEq, Int.reduceAdd, Int.reduceNeg, reduceIte, reduceCtorEq, Nat.reduceLT, (few_ok hq 3000).callG]
  rw [Run_if]
  simp only [go_sem, Nat.reduceEqDiff, Nat.reduceAdd, Nat.reduceLeDiff, Nat.reduceMul, Nat.reduceSub, Int.reduceLT, Int.reduceLE, Int.reduceEq, Int.reduceAdd, Int.reduceNeg, reduceIte, reduceCtorEq, Nat.reduceLT]
  split
  · rw [awake_c]
    simp only [go_sem, Nat.reduceEqDiff, Nat.reduceAdd, Nat.reduceLeDiff, Nat.reduceMul, Nat.reduceSub, Int.reduceLT, Int.reduceLE, Int.reduceEq, Int.reduceAdd, Int.reduceNeg, reduceIte, reduceCtorEq, Nat.reduceLT]
  · rw [(lang_same hp).call]
    simp only [go_sem, Nat.reduceEqDiff, Nat.reduceAdd, Nat.reduceLeDiff, Nat.reduceMul, Nat.reduceSub, Int.reduceLT, Int.reduceLE, Int.reduceEq, Int.reduceAdd, Int.reduceNeg, reduceIte, reduceCtorEq, Nat.reduceLT, beq_self_eq_true]
    rw [(ref_same hp).call]
    simp only [go_sem, Nat.reduceEqDiff, Nat.reduceAdd, Nat.reduceLeDiff, Nat.reduceMul, Nat.reduceSub, Int.reduceLT, Int.reduceLE, Int.reduceEq, Int.reduceAdd, Int.reduceNeg, reduceIte, reduceCtorEq, Nat.reduceLT, beq_self_eq_true]
    rw [(lang_same hq).call]
    simp only [go_sem, Nat.reduceEqDiff, Nat.reduceAdd, Nat.reduceLeDiff, Nat.reduceMul, Nat.reduceSub, Int.reduceLT, Int.reduceLE, Int.reduceEq, Int.reduceAdd, Int.reduceNeg, reduceIte, reduceCtorEq, Nat.reduceLT, beq_self_eq_true]
    rw [(ref_same hp).call]
    simp only [go_sem, Nat.reduceEqDiff, Nat.reduceAdd, Nat.reduceLeDiff, Nat.reduceMul, Nat.reduceSub, Int.reduceLT, Int.reduceLE, Int.reduceEq, Int.reduceAdd, Int.reduceNeg, reduceIte, reduceCtorEq, Nat.reduceLT, eqvL_comm (encPrg q) (encPrg p), beq_self_eq_true]
    rw [(lang_same hp).call]
    simp only [go_sem, Nat.reduceEqDiff, Nat.reduceAdd, Nat.reduceLeDiff, Nat.reduceMul, Nat.reduceSub, Int.reduceLT, Int.reduceLE, Int.reduceEq, Int.reduceAdd, Int.reduceNeg, reduceIte, reduceCtorEq, Nat.reduceLT, refl_Prg, beq_self_eq_true]
    rw [awake_c]
    simp only [go_sem, Nat.reduceEqDiff, Nat.reduceAdd, Nat.reduceLeDiff, Nat.reduceMul, Nat.reduceSub, Int.reduceLT, Int.reduceLE, Int.reduceEq, Int.reduceAdd, Int.reduceNeg, reduceIte, reduceCtorEq, Nat.reduceLT, beq_self_eq_true]
theorem same_law {n m : Nat} {vs ws : List V} (h : typed Try.prog n 26 vs) (k : typed Try.prog m 26 ws) : EvC theEnv 5 [.agg vs, .agg ws] (.bool true) := by
  obtain ⟨p, rfl, hp⟩ := ty_Prg h
  obtain ⟨q, rfl, hq⟩ := ty_Prg k
  exact (same_ok hp hq).s []
theorem sameLaw : SameLaw := fun _ _ _ _ h k => same_law h k
end Wp
end AM
end Go.Proofs.Ytimfbnojmdnlnaa
