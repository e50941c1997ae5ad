/- slices.EqualFunc: one code for all. -/
import Derived.Test.YtimfbnojmdnlnaaKWpT
import Derived.Test.YtimfbnojmdnlnaaKWpC
import Derived.Test.YtimfbnojmdnlnaaKSaC
import Derived.Test.YtimfbnojmdnlnaaKLaH
set_option linter.unusedVariables false
set_option linter.unusedSimpArgs false
set_option maxRecDepth 100000
namespace Go.Proofs.Ytimfbnojmdnlnaa
namespace AM
namespace Wp
def eqFunc (n : Nat) (z : List V) : ACode :=
 .seq (.reg [
   .seq ⟨some 6, .mv true (.c (.bool false)), none⟩])
 (.seq (.seq (.reg [
   .seq ⟨some 10, .mv false (.t 0), none⟩,
   .seq ⟨some 11, .len false (.t 10), none⟩,
   .seq ⟨some 12, .mv false (.t 1), none⟩,
   .seq ⟨some 13, .len false (.t 12), none⟩,
   .seq ⟨some 14, .bin .neq 0 (.t 11) (.t 13), none⟩])
 (.cond (.t 14)
  (.seq (.reg [
    .seq ⟨some 6, .mv true (.c (.bool false)), none⟩])
  (.ret))
  (.nop)))
 (.seq (.seq (.reg [
   .seq ⟨some 15, .mv false (.t 0), none⟩,
   .seq ⟨some 16, .len false (.t 15), none⟩,
   .seq ⟨some 17, .mv false (.c (.int .i64 0)), none⟩])
 (.blk 0
  (.loop (rangeC 18 17 31 16 0 (.blk 1
   (.seq (.reg [
     .seq ⟨some 19, .mv false (.t 17), none⟩,
     .seq ⟨some 20, .ia n (.t 15) (.t 17), none⟩,
     .seq ⟨some 21, .ld false n true (.t 20), none⟩,
     .seq ⟨some 8, .al z, none⟩,
     .seq ⟨some 7, .mv true (.t 19), none⟩,
     .seq ⟨none, .st n (.t 8) (.t 21), none⟩])
   (.seq (.reg [
     .seq ⟨some 22, .mv false (.t 1), none⟩,
     .seq ⟨some 23, .mv false (.t 7), none⟩,
     .seq ⟨some 24, .ia n (.t 22) (.t 23), none⟩,
     .seq ⟨some 25, .ld false n true (.t 24), none⟩,
     .seq ⟨some 9, .al z, none⟩,
     .seq ⟨none, .st n (.t 9) (.t 25), none⟩])
   (.seq (.reg [
     .seq ⟨some 26, .mv false (.t 2), none⟩,
     .seq ⟨some 27, .ld false n true (.t 8), none⟩,
     .seq ⟨some 28, .ld false n true (.t 9), none⟩,
     .seq ⟨some 29, .callv (.t 26) [(.t 27), (.t 28)], none⟩,
     .seq ⟨some 30, .un .not (.t 29), none⟩])
   (.cond (.t 30)
    (.seq (.reg [
      .seq ⟨some 6, .mv true (.c (.bool false)), none⟩])
    (.ret))
    (.nop))))))))))
 (.seq (.reg [
   .seq ⟨some 6, .mv true (.c (.bool true)), none⟩])
 (.ret))))
theorem eqFunc_46 : ∃ z, z.length = 19 ∧ c46 = eqFunc 19 z := ⟨_, rfl, rfl⟩

variable {E : Env}
theorem eqFunc_sp {f g n : Nat} {z : List V} (hx : E.ext f = none) (hf : E.fn f = some ⟨3, 32, [.t 6], eqFunc n z, false⟩) (hz : z.length = n) {k1 k2 : Bool} {xs ys : List (List V)} (hm : xs.length ≤ 9223372036854775807)
    (hfx : ∀ x ∈ xs, x.length = n ∧ x.map strip = x ∧ ∀ n, lowL n x = true) (hfy : ∀ y ∈ ys, y.length = n ∧ y.map strip = y ∧ ∀ n, lowL n y = true) (hg : ∀ x ∈ xs, ∀ y ∈ ys, Sp E g [.agg x, .agg y] (.bool (eqvL x y))) (hz2 : dz (some z) = some z := by rfl) :
    Sp E f [.slice (nk k1) xs, .slice (nk k2) ys, .func (.func g) []] (.bool (eqvR xs ys)) := by
  refine Sp.fn hx hf rfl (by simp only [go_sem, Nat.reduceEqDiff, Nat.reduceAdd, Nat.reduceLeDiff, Nat.reduceMul, Nat.reduceSub, Int.reduceLT, Int.reduceLE, Int.reduceEq, Int.reduceAdd, Int.reduceNeg, reduceIte, reduceCtorEq, Nat.reduceLT]) (by simp only [go_sem, Nat.reduceEqDiff, Nat.reduceAdd, Nat.reduceLeDiff, Nat.reduceMul, Nat.reduceSub, Int.reduceLT, Int.reduceLE, Int.reduceEq, Int.reduceAdd, Int.reduceNeg, reduceIte, reduceCtorEq, Nat.reduceLT, implies_true]) fun S => ?_
  simp only [eqFunc, go_sem, Nat.reduceEqDiff, Nat.reduceAdd, Nat.reduceLeDiff, Nat.reduceMul, Nat.reduceSub, Int.reduceLT, Int.reduceLE, Int.reduceEq, Int.reduceAdd, Int.reduceNeg, reduceIte, reduceCtorEq, Nat.reduceLT]
  refine (Run_cond (t := !decide (xs.length = ys.length)) (by simp only [go_sem, Nat.reduceEqDiff, Nat.reduceAdd, Nat.reduceLeDiff, Nat.reduceMul, Nat.reduceSub, Int.reduceLT, Int.reduceLE, Int.reduceEq, Int.reduceAdd, Int.reduceNeg, reduceIte, reduceCtorEq, Nat.reduceLT])).mpr ?_
  by_cases hl : xs.length = ys.length
  · simp only [hl, go_sem, Nat.reduceEqDiff, Nat.reduceAdd, Nat.reduceLeDiff, Nat.reduceMul, Nat.reduceSub, Int.reduceLT, Int.reduceLE, Int.reduceEq, Int.reduceAdd, Int.reduceNeg, reduceIte, reduceCtorEq, Nat.reduceLT]
    refine Run_range xs.length [1, 2, 15] [] (fun k _ S' => ∃ B, S' = ⟨B, none⟩ :: S ∧ ∀ (i : Nat) (x y : List V), i < k → xs[i]? = some x → ys[i]? = some y → eqvL x y = true) hm (by simp only [go_sem, Nat.reduceEqDiff, Nat.reduceAdd, Nat.reduceLeDiff, Nat.reduceMul, Nat.reduceSub, Int.reduceLT, Int.reduceLE, Int.reduceEq, Int.reduceAdd, Int.reduceNeg, reduceIte, reduceCtorEq, Nat.reduceLT]) (by simp only [go_sem, Nat.reduceEqDiff, Nat.reduceAdd, Nat.reduceLeDiff, Nat.reduceMul, Nat.reduceSub, Int.reduceLT, Int.reduceLE, Int.reduceEq, Int.reduceAdd, Int.reduceNeg, reduceIte, reduceCtorEq, Nat.reduceLT, hl]) rfl rfl rfl rfl (by simp only [go_sem, Nat.reduceEqDiff, Nat.reduceAdd, Nat.reduceLeDiff, Nat.reduceMul, Nat.reduceSub, Int.reduceLT, Int.reduceLE, Int.reduceEq, Int.reduceAdd, Int.reduceNeg, reduceIte, reduceCtorEq, Nat.reduceLT]) ⟨[], rfl, by simp⟩ ?_ ?_
    · rintro k F S' hk ⟨B, rfl, hB⟩ hi hkept
      simp only [go_sem, Nat.reduceEqDiff, Nat.reduceAdd, Nat.reduceLeDiff, Nat.reduceMul, Nat.reduceSub, Int.reduceLT, Int.reduceLE, Int.reduceEq, Int.reduceAdd, Int.reduceNeg, reduceIte, reduceCtorEq, Nat.reduceLT] at hkept
      obtain ⟨x, hxi⟩ : ∃ x, xs[k]? = some x := ⟨xs[k], List.getElem?_eq_getElem hk⟩
      obtain ⟨y, hyi⟩ : ∃ y, ys[k]? = some y := ⟨ys[k]'(by omega), List.getElem?_eq_getElem (by omega)⟩
      have hxm := List.mem_of_getElem? hxi
      have hym := List.mem_of_getElem? hyi
      obtain ⟨hxn, hxf, hxl⟩ := hfx x hxm
      obtain ⟨hyn, hyf, hyl⟩ := hfy y hym
      simp only [go_sem, Nat.reduceEqDiff, Nat.reduceAdd, Nat.reduceLeDiff, Nat.reduceMul, Nat.reduceSub, Int.reduceLT, Int.reduceLE, Int.reduceEq, Int.reduceAdd, Int.reduceNeg, reduceIte, reduceCtorEq, Nat.reduceLT, hkept, hi, iaO_at hxi hxn, iaO_at hyi hyn, cutV_all hxn, cutV_all hyn, hxf, hyf, hxn, hyn, hz, hz2, badd_var, Nat.zero_add, Nat.le_refl, hxl, hyl, setAt_all (hxn.trans hz.symm), setAt_all (hyn.trans hz.symm)]
      simp only [go_sem, Nat.reduceEqDiff, Nat.reduceAdd, Nat.reduceLeDiff, Nat.reduceMul, Nat.reduceSub, Int.reduceLT, Int.reduceLE, Int.reduceEq, Int.reduceAdd, Int.reduceNeg, reduceIte, reduceCtorEq, Nat.reduceLT, (hg x hxm y hym).callv0 rfl]
      cases he : eqvL x y with
      | true =>
        simp only [go_sem, Nat.reduceEqDiff, Nat.reduceAdd, Nat.reduceLeDiff, Nat.reduceMul, Nat.reduceSub, Int.reduceLT, Int.reduceLE, Int.reduceEq, Int.reduceAdd, Int.reduceNeg, reduceIte, reduceCtorEq, Nat.reduceLT]
        refine ⟨_, rfl, fun i x' y' hi' hx' hy' => ?_⟩
        rcases Nat.lt_succ_iff_lt_or_eq.1 hi' with h | h
        · exact hB i x' y' h hx' hy'
        · subst h; rw [hxi] at hx'; rw [hyi] at hy'; cases hx'; cases hy'; exact he
      | false =>
        simp only [go_sem, Nat.reduceEqDiff, Nat.reduceAdd, Nat.reduceLeDiff, Nat.reduceMul, Nat.reduceSub, Int.reduceLT, Int.reduceLE, Int.reduceEq, Int.reduceAdd, Int.reduceNeg, reduceIte, reduceCtorEq, Nat.reduceLT, eqvR_at hxi hyi he, implies_true]
    · rintro F S' ⟨B, rfl, hB⟩ -
      simp only [go_sem, Nat.reduceEqDiff, Nat.reduceAdd, Nat.reduceLeDiff, Nat.reduceMul, Nat.reduceSub, Int.reduceLT, Int.reduceLE, Int.reduceEq, Int.reduceAdd, Int.reduceNeg, reduceIte, reduceCtorEq, Nat.reduceLT, eqvR_all hl fun i x y hx hy => hB i x y (List.getElem?_eq_some_iff.1 hx).1 hx hy]
  · simp only [hl, go_sem, Nat.reduceEqDiff, Nat.reduceAdd, Nat.reduceLeDiff, Nat.reduceMul, Nat.reduceSub, Int.reduceLT, Int.reduceLE, Int.reduceEq, Int.reduceAdd, Int.reduceNeg, reduceIte, reduceCtorEq, Nat.reduceLT, eqvR_len hl]
end Wp
end AM
end Go.Proofs.Ytimfbnojmdnlnaa
