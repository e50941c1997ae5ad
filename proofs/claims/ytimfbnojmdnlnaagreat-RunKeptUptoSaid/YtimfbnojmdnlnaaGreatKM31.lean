/- Equality of slices, element by element; Every tree is like itself. -/
import Derived.Test.YtimfbnojmdnlnaaGreatKWpC
import Derived.Test.YtimfbnojmdnlnaaGreatKSaC
import Derived.Test.YtimfbnojmdnlnaaGreatKLaH
import Derived.Test.YtimfbnojmdnlnaaGreatKWpU
set_option linter.unusedVariables false
set_option linter.unusedSimpArgs false
set_option maxRecDepth 100000
section
namespace Go.Proofs.YtimfbnojmdnlnaaGreat
open Nat renaming reduceEqDiff → Ra, reduceAdd → Rb, reduceLeDiff → Rc, reduceMul → Rd, reduceSub → Re, reduceLT → Rk
open Int renaming reduceLT → Rf, reduceLE → Rg, reduceEq → Rh, reduceAdd → Ri, reduceNeg → Rj
namespace AM
namespace Wp
def EqTo (xs ys : List (List V)) (k : Nat) : Prop := ∀ (i : Nat) (x y : List V), i < k → xs[i]? = some x → ys[i]? = some y → eqvL x y = true
theorem EqTo.zero {xs ys : List (List V)} : EqTo xs ys 0 := fun _ _ _ h => absurd h (by omega)
theorem EqTo.succ {xs ys : List (List V)} {k : Nat} {x y : List V} (h : EqTo xs ys k) (hx : xs[k]? = some x) (hy : ys[k]? = some y) (he : eqvL x y = true) : EqTo xs ys (k + 1) := fun i x' y' hi hx' hy' => by
 rcases Nat.lt_succ_iff_lt_or_eq.1 hi with h1 | h1
 ·exact h i x' y' h1 hx' hy'
 ·subst h1; rw [hx] at hx'; rw [hy] at hy'; cases hx'; cases hy'; exact he
theorem EqTo.all {xs ys : List (List V)} (hl : xs.length = ys.length) (h : EqTo xs ys xs.length) : eqvR xs ys = true := eqvR_all hl fun i x y hx hy => h i x y (List.getElem?_eq_some_iff.1 hx).1 hx hy
theorem eqv_I {a b : Int} : eqvL (encI a) (encI b) = decide (a = b) := by simp only [encI, eqvL, eqv_int, Bool.and_true]
theorem eqv_S {a b : ByteArray} : eqvL (encS a) (encS b) = decide (a = b) := by simp only [encS, eqvL, eqv_str, Bool.and_true]
theorem eqv_keep : True := trivial
theorem map_at {α : Type} {enc : α → List V} {l : List α} {k : Nat} {x : α} (h : l[k]? = some x) : (l.map enc)[k]? = some (enc x) := by simp [h]
theorem eq_names {b1 b2 : Bool} {l1 l2 : List ByteArray} (h : l1.length ≤ LIM) : Sp theEnv 16 [.slice (nk b1) (l1.map encS), .slice (nk b2) (l2.map encS)] (.bool (eqvR (l1.map encS) (l2.map encS))) := by
 refine Sp.fn rfl rfl rfl (by simp only [go_sem, Ra, Rb, Rc, Rd, Re, Rf, Rg, Rh, Ri, Rj, reduceIte, reduceCtorEq, Rk]) (by simp only [go_sem, Ra, Rb, Rc, Rd, Re, Rf, Rg, Rh, Ri, Rj, reduceIte, reduceCtorEq, Rk, implies_true]) fun S => ?_; simp only [a16, c16, go_sem, Ra, Rb, Rc, Rd, Re, Rf, Rg, Rh, Ri, Rj, reduceIte, reduceCtorEq, Rk]
 rw [Run_if]
 simp only [go_sem, Ra, Rb, Rc, Rd, Re, Rf, Rg, Rh, Ri, Rj, reduceIte, reduceCtorEq, Rk]
 by_cases hl : l1.length = l2.length
 ·simp only [hl, go_sem, Ra, Rb, Rc, Rd, Re, Rf, Rg, Rh, Ri, Rj, reduceIte, reduceCtorEq, Rk]
  refine Run_range l1.length [0, 1] [] (fun k _ S' => (∃ B, S' = ⟨B, none⟩ :: S) ∧ EqTo (l1.map encS) (l2.map encS) k) h (by simp only [go_sem, Ra, Rb, Rc, Rd, Re, Rf, Rg, Rh, Ri, Rj, reduceIte, reduceCtorEq, Rk]) (by simp only [go_sem, Ra, Rb, Rc, Rd, Re, Rf, Rg, Rh, Ri, Rj, reduceIte, reduceCtorEq, Rk, hl]) rfl rfl rfl rfl (by simp only [go_sem, Ra, Rb, Rc, Rd, Re, Rf, Rg, Rh, Ri, Rj, reduceIte, reduceCtorEq, Rk]) ⟨⟨_, rfl⟩, EqTo.zero⟩ ?_ ?_
  ·rintro k F _ hk ⟨⟨B, rfl⟩, hB⟩ hi hkept
   simp only [go_sem, Ra, Rb, Rc, Rd, Re, Rf, Rg, Rh, Ri, Rj, reduceIte, reduceCtorEq, Rk] at hkept
   obtain ⟨x, hx⟩ : ∃ x, l1[k]? = some x := ⟨l1[k], List.getElem?_eq_getElem hk⟩
   obtain ⟨y, hy⟩ : ∃ y, l2[k]? = some y := ⟨l2[k]'(by omega), List.getElem?_eq_getElem (by omega)⟩
   simp only [go_sem, Ra, Rb, Rc, Rd, Re, Rf, Rg, Rh, Ri, Rj, reduceIte, reduceCtorEq, Rk, hkept, hi, iaO_map hx, iaO_map hy, Run_if]
   split
   ·rename_i he
    exact (eqvR_at (map_at hx) (map_at hy) (by simpa only [eqv_S] using he)).symm
   ·rename_i he
    exact EqTo.succ hB (map_at hx) (map_at hy) (by simpa only [eqv_S, Bool.not_eq_false] using he)
  ·rintro F _ ⟨⟨B, rfl⟩, hB⟩ hkept
   simp only [go_sem, Ra, Rb, Rc, Rd, Re, Rf, Rg, Rh, Ri, Rj, reduceIte, reduceCtorEq, Rk, EqTo.all (xs := l1.map encS) (ys := l2.map encS) (by simpa using hl) (by simpa using hB)]
 ·simp only [hl, go_sem, Ra, Rb, Rc, Rd, Re, Rf, Rg, Rh, Ri, Rj, reduceIte, reduceCtorEq, Rk, eqvR_len (xs := l1.map encS) (ys := l2.map encS) (by simpa using hl)]
theorem eq_lins {b1 b2 : Bool} {l1 l2 : List Lin} (h : l1.length ≤ LIM) (hg : ∀ x ∈ l1, ∀ y ∈ l2, Sp theEnv 90 [.agg (encLin x), .agg (encLin y)] (.bool (eqvL (encLin x) (encLin y)))) : Sp theEnv 54 [.slice (nk b1) (l1.map encLin), .slice (nk b2) (l2.map encLin)] (.bool (eqvR (l1.map encLin) (l2.map encLin))) := by
 refine Sp.fn rfl rfl rfl (by simp only [go_sem, Ra, Rb, Rc, Rd, Re, Rf, Rg, Rh, Ri, Rj, reduceIte, reduceCtorEq, Rk]) (by simp only [go_sem, Ra, Rb, Rc, Rd, Re, Rf, Rg, Rh, Ri, Rj, reduceIte, reduceCtorEq, Rk, implies_true]) fun S => ?_; simp only [a54, c54, go_sem, Ra, Rb, Rc, Rd, Re, Rf, Rg, Rh, Ri, Rj, reduceIte, reduceCtorEq, Rk]
 rw [Run_if]
 simp only [go_sem, Ra, Rb, Rc, Rd, Re, Rf, Rg, Rh, Ri, Rj, reduceIte, reduceCtorEq, Rk]
 by_cases hl : l1.length = l2.length
 ·simp only [hl, go_sem, Ra, Rb, Rc, Rd, Re, Rf, Rg, Rh, Ri, Rj, reduceIte, reduceCtorEq, Rk]
  refine Run_range l1.length [0, 1] [] (fun k _ S' => (∃ B, S' = ⟨B, none⟩ :: S) ∧ EqTo (l1.map encLin) (l2.map encLin) k) h (by simp only [go_sem, Ra, Rb, Rc, Rd, Re, Rf, Rg, Rh, Ri, Rj, reduceIte, reduceCtorEq, Rk]) (by simp only [go_sem, Ra, Rb, Rc, Rd, Re, Rf, Rg, Rh, Ri, Rj, reduceIte, reduceCtorEq, Rk, hl]) rfl rfl rfl rfl (by simp only [go_sem, Ra, Rb, Rc, Rd, Re, Rf, Rg, Rh, Ri, Rj, reduceIte, reduceCtorEq, Rk]) ⟨⟨_, rfl⟩, EqTo.zero⟩ ?_ ?_
  ·rintro k F _ hk ⟨⟨B, rfl⟩, hB⟩ hi hkept
   simp only [go_sem, Ra, Rb, Rc, Rd, Re, Rf, Rg, Rh, Ri, Rj, reduceIte, reduceCtorEq, Rk] at hkept
   obtain ⟨x, hx⟩ : ∃ x, l1[k]? = some x := ⟨l1[k], List.getElem?_eq_getElem hk⟩
   obtain ⟨y, hy⟩ : ∃ y, l2[k]? = some y := ⟨l2[k]'(by omega), List.getElem?_eq_getElem (by omega)⟩
   simp only [go_sem, Ra, Rb, Rc, Rd, Re, Rf, Rg, Rh, Ri, Rj, reduceIte, reduceCtorEq, Rk, hkept, hi, iaO_map hx, iaO_map hy, (hg x (List.mem_of_getElem? hx) y (List.mem_of_getElem? hy)).call, Run_if]
   split
   ·rename_i he
    exact (eqvR_at (map_at hx) (map_at hy) (by simpa only [eqv_keep] using he)).symm
   ·rename_i he
    exact EqTo.succ hB (map_at hx) (map_at hy) (by simpa only [eqv_keep, Bool.not_eq_false] using he)
  ·rintro F _ ⟨⟨B, rfl⟩, hB⟩ hkept
   simp only [go_sem, Ra, Rb, Rc, Rd, Re, Rf, Rg, Rh, Ri, Rj, reduceIte, reduceCtorEq, Rk, EqTo.all (xs := l1.map encLin) (ys := l2.map encLin) (by simpa using hl) (by simpa using hB)]
 ·simp only [hl, go_sem, Ra, Rb, Rc, Rd, Re, Rf, Rg, Rh, Ri, Rj, reduceIte, reduceCtorEq, Rk, eqvR_len (xs := l1.map encLin) (ys := l2.map encLin) (by simpa using hl)]
theorem eq_piece {b1 b2 : Bool} {l1 l2 : List Cnd} (h : l1.length ≤ LIM) (hg : ∀ x ∈ l1, ∀ y ∈ l2, Sp theEnv 115 [.agg (encCnd x), .agg (encCnd y)] (.bool (eqvL (encCnd x) (encCnd y)))) : Sp theEnv 91 [.slice (nk b1) (l1.map encCnd), .slice (nk b2) (l2.map encCnd)] (.bool (eqvR (l1.map encCnd) (l2.map encCnd))) := by
 refine Sp.fn rfl rfl rfl (by simp only [go_sem, Ra, Rb, Rc, Rd, Re, Rf, Rg, Rh, Ri, Rj, reduceIte, reduceCtorEq, Rk]) (by simp only [go_sem, Ra, Rb, Rc, Rd, Re, Rf, Rg, Rh, Ri, Rj, reduceIte, reduceCtorEq, Rk, implies_true]) fun S => ?_; simp only [a91, c91, go_sem, Ra, Rb, Rc, Rd, Re, Rf, Rg, Rh, Ri, Rj, reduceIte, reduceCtorEq, Rk]
 rw [Run_if]
 simp only [go_sem, Ra, Rb, Rc, Rd, Re, Rf, Rg, Rh, Ri, Rj, reduceIte, reduceCtorEq, Rk]
 by_cases hl : l1.length = l2.length
 ·simp only [hl, go_sem, Ra, Rb, Rc, Rd, Re, Rf, Rg, Rh, Ri, Rj, reduceIte, reduceCtorEq, Rk]
  refine Run_range l1.length [0, 1] [] (fun k _ S' => (∃ B, S' = ⟨B, none⟩ :: S) ∧ EqTo (l1.map encCnd) (l2.map encCnd) k) h (by simp only [go_sem, Ra, Rb, Rc, Rd, Re, Rf, Rg, Rh, Ri, Rj, reduceIte, reduceCtorEq, Rk]) (by simp only [go_sem, Ra, Rb, Rc, Rd, Re, Rf, Rg, Rh, Ri, Rj, reduceIte, reduceCtorEq, Rk, hl]) rfl rfl rfl rfl (by simp only [go_sem, Ra, Rb, Rc, Rd, Re, Rf, Rg, Rh, Ri, Rj, reduceIte, reduceCtorEq, Rk]) ⟨⟨_, rfl⟩, EqTo.zero⟩ ?_ ?_
  ·rintro k F _ hk ⟨⟨B, rfl⟩, hB⟩ hi hkept
   simp only [go_sem, Ra, Rb, Rc, Rd, Re, Rf, Rg, Rh, Ri, Rj, reduceIte, reduceCtorEq, Rk] at hkept
   obtain ⟨x, hx⟩ : ∃ x, l1[k]? = some x := ⟨l1[k], List.getElem?_eq_getElem hk⟩
   obtain ⟨y, hy⟩ : ∃ y, l2[k]? = some y := ⟨l2[k]'(by omega), List.getElem?_eq_getElem (by omega)⟩
   simp only [go_sem, Ra, Rb, Rc, Rd, Re, Rf, Rg, Rh, Ri, Rj, reduceIte, reduceCtorEq, Rk, hkept, hi, iaO_map hx, iaO_map hy, (hg x (List.mem_of_getElem? hx) y (List.mem_of_getElem? hy)).call, Run_if]
   split
   ·rename_i he
    exact (eqvR_at (map_at hx) (map_at hy) (by simpa only [eqv_keep] using he)).symm
   ·rename_i he
    exact EqTo.succ hB (map_at hx) (map_at hy) (by simpa only [eqv_keep, Bool.not_eq_false] using he)
  ·rintro F _ ⟨⟨B, rfl⟩, hB⟩ hkept
   simp only [go_sem, Ra, Rb, Rc, Rd, Re, Rf, Rg, Rh, Ri, Rj, reduceIte, reduceCtorEq, Rk, EqTo.all (xs := l1.map encCnd) (ys := l2.map encCnd) (by simpa using hl) (by simpa using hB)]
 ·simp only [hl, go_sem, Ra, Rb, Rc, Rd, Re, Rf, Rg, Rh, Ri, Rj, reduceIte, reduceCtorEq, Rk, eqvR_len (xs := l1.map encCnd) (ys := l2.map encCnd) (by simpa using hl)]
theorem eq_body {b1 b2 : Bool} {l1 l2 : List Stm} (h : l1.length ≤ LIM) (hg : ∀ x ∈ l1, ∀ y ∈ l2, Sp theEnv 17 [.agg (encStm x), .agg (encStm y)] (.bool (eqvL (encStm x) (encStm y)))) : Sp theEnv 53 [.slice (nk b1) (l1.map encStm), .slice (nk b2) (l2.map encStm)] (.bool (eqvR (l1.map encStm) (l2.map encStm))) := by
 refine Sp.fn rfl rfl rfl (by simp only [go_sem, Ra, Rb, Rc, Rd, Re, Rf, Rg, Rh, Ri, Rj, reduceIte, reduceCtorEq, Rk]) (by simp only [go_sem, Ra, Rb, Rc, Rd, Re, Rf, Rg, Rh, Ri, Rj, reduceIte, reduceCtorEq, Rk, implies_true]) fun S => ?_; simp only [a53, c53, go_sem, Ra, Rb, Rc, Rd, Re, Rf, Rg, Rh, Ri, Rj, reduceIte, reduceCtorEq, Rk]
 rw [Run_if]
 simp only [go_sem, Ra, Rb, Rc, Rd, Re, Rf, Rg, Rh, Ri, Rj, reduceIte, reduceCtorEq, Rk]
 by_cases hl : l1.length = l2.length
 ·simp only [hl, go_sem, Ra, Rb, Rc, Rd, Re, Rf, Rg, Rh, Ri, Rj, reduceIte, reduceCtorEq, Rk]
  refine Run_range l1.length [0, 1] [] (fun k _ S' => (∃ B, S' = ⟨B, none⟩ :: S) ∧ EqTo (l1.map encStm) (l2.map encStm) k) h (by simp only [go_sem, Ra, Rb, Rc, Rd, Re, Rf, Rg, Rh, Ri, Rj, reduceIte, reduceCtorEq, Rk]) (by simp only [go_sem, Ra, Rb, Rc, Rd, Re, Rf, Rg, Rh, Ri, Rj, reduceIte, reduceCtorEq, Rk, hl]) rfl rfl rfl rfl (by simp only [go_sem, Ra, Rb, Rc, Rd, Re, Rf, Rg, Rh, Ri, Rj, reduceIte, reduceCtorEq, Rk]) ⟨⟨_, rfl⟩, EqTo.zero⟩ ?_ ?_
  ·rintro k F _ hk ⟨⟨B, rfl⟩, hB⟩ hi hkept
   simp only [go_sem, Ra, Rb, Rc, Rd, Re, Rf, Rg, Rh, Ri, Rj, reduceIte, reduceCtorEq, Rk] at hkept
   obtain ⟨x, hx⟩ : ∃ x, l1[k]? = some x := ⟨l1[k], List.getElem?_eq_getElem hk⟩
   obtain ⟨y, hy⟩ : ∃ y, l2[k]? = some y := ⟨l2[k]'(by omega), List.getElem?_eq_getElem (by omega)⟩
   simp only [go_sem, Ra, Rb, Rc, Rd, Re, Rf, Rg, Rh, Ri, Rj, reduceIte, reduceCtorEq, Rk, hkept, hi, iaO_map hx, iaO_map hy, (hg x (List.mem_of_getElem? hx) y (List.mem_of_getElem? hy)).call, Run_if]
   split
   ·rename_i he
    exact (eqvR_at (map_at hx) (map_at hy) (by simpa only [eqv_keep] using he)).symm
   ·rename_i he
    exact EqTo.succ hB (map_at hx) (map_at hy) (by simpa only [eqv_keep, Bool.not_eq_false] using he)
  ·rintro F _ ⟨⟨B, rfl⟩, hB⟩ hkept
   simp only [go_sem, Ra, Rb, Rc, Rd, Re, Rf, Rg, Rh, Ri, Rj, reduceIte, reduceCtorEq, Rk, EqTo.all (xs := l1.map encStm) (ys := l2.map encStm) (by simpa using hl) (by simpa using hB)]
 ·simp only [hl, go_sem, Ra, Rb, Rc, Rd, Re, Rf, Rg, Rh, Ri, Rj, reduceIte, reduceCtorEq, Rk, eqvR_len (xs := l1.map encStm) (ys := l2.map encStm) (by simpa using hl)]
end Wp
end AM
end Go.Proofs.YtimfbnojmdnlnaaGreat
end
section
namespace Go.Proofs.YtimfbnojmdnlnaaGreat
open Nat renaming reduceEqDiff → Ra, reduceAdd → Rb, reduceLeDiff → Rc, reduceMul → Rd, reduceSub → Re, reduceLT → Rk
open Int renaming reduceLT → Rf, reduceLE → Rg, reduceEq → Rh, reduceAdd → Ri, reduceNeg → Rj
namespace AM
namespace Wp
theorem refl_R {α : Type} {enc : α → List V} {l : List α} (h : ∀ x ∈ l, eqvL (enc x) (enc x) = true) : eqvR (l.map enc) (l.map enc) = true := by
 refine eqvR_all rfl fun i x y hx hy => ?_
 rw [hx] at hy; cases hy
 obtain ⟨a, ha, rfl⟩ := List.mem_map.1 (List.mem_of_getElem? hx)
 exact h a ha
end Wp
end AM
end Go.Proofs.YtimfbnojmdnlnaaGreat
end
