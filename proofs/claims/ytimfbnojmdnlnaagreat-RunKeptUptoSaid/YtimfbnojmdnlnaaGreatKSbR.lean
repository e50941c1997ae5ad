/- ref10.Same, whole. -/
import Derived.Test.YtimfbnojmdnlnaaGreatKM31
set_option linter.unusedVariables false
set_option linter.unusedSimpArgs false
set_option maxRecDepth 100000
namespace Go.Proofs.YtimfbnojmdnlnaaGreat
open Nat renaming reduceEqDiff → Ra, reduceAdd → Rb, reduceLeDiff → Rc, reduceMul → Rd, reduceSub → Re, reduceLT → Rk
open Int renaming reduceLT → Rf, reduceLE → Rg, reduceEq → Rh, reduceAdd → Ri, reduceNeg → Rj
namespace AM
namespace Wp
theorem eqvR_map_len {α : Type} {enc : α → List V} {l1 l2 : List α} (h : l1.length ≠ l2.length) : eqvR (l1.map enc) (l2.map enc) = false := eqvR_len (by simpa using h)
theorem rsame_lin {a b : Lin} (h : OkLin a) : Sp theEnv 90 [.agg (encLin a), .agg (encLin b)] (.bool (eqvL (encLin a) (encLin b))) := by
 refine Sp.fn rfl rfl rfl (by simp only [go_sem, Ra, Rb, Rc, Rd, Re, Rf, Rg, Rh, Ri, Rj, reduceIte, reduceCtorEq, Rk]) (by simp only [go_sem, Ra, Rb, Rc, Rd, Re, Rf, Rg, Rh, Ri, Rj, reduceIte, reduceCtorEq, Rk, implies_true]) fun S => ?_; simp only [a90, c90, go_sem, Ra, Rb, Rc, Rd, Re, Rf, Rg, Rh, Ri, Rj, reduceIte, reduceCtorEq, Rk]
 rw [Run_if]
 simp only [go_sem, Ra, Rb, Rc, Rd, Re, Rf, Rg, Rh, Ri, Rj, reduceIte, reduceCtorEq, Rk]
 by_cases hl : a.c.length = b.c.length
 ·by_cases hk : a.k = b.k
  ·simp only [hl, hk, go_sem, Ra, Rb, Rc, Rd, Re, Rf, Rg, Rh, Ri, Rj, reduceIte, reduceCtorEq, Rk]
   refine Run_range a.c.length [2, 3] [] (fun k _ S' => (∃ B, S' = ⟨encLin a :: encLin b :: B, none⟩ :: S) ∧ EqTo (a.c.map encI) (b.c.map encI) k) h.c (by simp only [go_sem, Ra, Rb, Rc, Rd, Re, Rf, Rg, Rh, Ri, Rj, reduceIte, reduceCtorEq, Rk]) (by simp only [go_sem, Ra, Rb, Rc, Rd, Re, Rf, Rg, Rh, Ri, Rj, reduceIte, reduceCtorEq, Rk, hl]) rfl rfl rfl rfl (by simp only [go_sem, Ra, Rb, Rc, Rd, Re, Rf, Rg, Rh, Ri, Rj, reduceIte, reduceCtorEq, Rk]) ⟨⟨_, rfl⟩, EqTo.zero⟩ ?_ ?_
   ·rintro k F _ hk' ⟨⟨B, rfl⟩, hB⟩ hi hkept
    simp only [go_sem, Ra, Rb, Rc, Rd, Re, Rf, Rg, Rh, Ri, Rj, reduceIte, reduceCtorEq, Rk] at hkept
    obtain ⟨x, hx⟩ : ∃ x, a.c[k]? = some x := ⟨a.c[k], List.getElem?_eq_getElem hk'⟩
    obtain ⟨y, hy⟩ : ∃ y, b.c[k]? = some y := ⟨b.c[k]'(by omega), List.getElem?_eq_getElem (by omega)⟩
    simp only [go_sem, Ra, Rb, Rc, Rd, Re, Rf, Rg, Rh, Ri, Rj, reduceIte, reduceCtorEq, Rk, hkept, hi, iaO_map hx, iaO_map hy, Run_if, eqv_Lin]
    split
    ·rename_i he
     simp only [eqvR_at (map_at (enc := encI) hx) (map_at (enc := encI) hy) (by simpa only [eqv_I] using he), go_sem, Ra, Rb, Rc, Rd, Re, Rf, Rg, Rh, Ri, Rj, reduceIte, reduceCtorEq, Rk]
    ·rename_i he
     exact EqTo.succ hB (map_at (enc := encI) hx) (map_at (enc := encI) hy) (by simpa only [eqv_I, Bool.not_eq_false] using he)
   ·rintro F _ ⟨⟨B, rfl⟩, hB⟩ hkept
    simp only [go_sem, Ra, Rb, Rc, Rd, Re, Rf, Rg, Rh, Ri, Rj, reduceIte, reduceCtorEq, Rk, eqv_Lin, hk, EqTo.all (xs := a.c.map encI) (ys := b.c.map encI) (by simpa using hl) (by simpa using hB)]
  ·simp only [hl, hk, go_sem, Ra, Rb, Rc, Rd, Re, Rf, Rg, Rh, Ri, Rj, reduceIte, reduceCtorEq, Rk, eqv_Lin]
 ·simp only [hl, go_sem, Ra, Rb, Rc, Rd, Re, Rf, Rg, Rh, Ri, Rj, reduceIte, reduceCtorEq, Rk, eqv_Lin, eqvR_map_len hl]
theorem rsame_lins {k1 k2 : Bool} {l1 l2 : List Lin} (h : l1.length ≤ LIM) (hx : ∀ x ∈ l1, OkLin x) : Sp theEnv 54 [.slice (nk k1) (l1.map encLin), .slice (nk k2) (l2.map encLin)] (.bool (eqvR (l1.map encLin) (l2.map encLin))) :=
 eq_lins h fun x hm y _ => rsame_lin (hx x hm)
theorem rsame_cnd {a b : Cnd} (h : OkCnd a) : Sp theEnv 115 [.agg (encCnd a), .agg (encCnd b)] (.bool (eqvL (encCnd a) (encCnd b))) := by
 refine Sp.fn rfl rfl rfl (by simp only [go_sem, Ra, Rb, Rc, Rd, Re, Rf, Rg, Rh, Ri, Rj, reduceIte, reduceCtorEq, Rk]) (by simp only [go_sem, Ra, Rb, Rc, Rd, Re, Rf, Rg, Rh, Ri, Rj, reduceIte, reduceCtorEq, Rk, implies_true]) fun S => ?_; simp only [a115, c115, go_sem, Ra, Rb, Rc, Rd, Re, Rf, Rg, Rh, Ri, Rj, reduceIte, reduceCtorEq, Rk]
 simp only [go_sem, Ra, Rb, Rc, Rd, Re, Rf, Rg, Rh, Ri, Rj, reduceIte, reduceCtorEq, Rk, (rsame_lin h.l).callG, eqv_Cnd]
theorem rsame_piece {a b : Piece} (h : OkPiece a) : Sp theEnv 91 [.slice (nk a.n) (a.conds.map encCnd), .slice (nk b.n) (b.conds.map encCnd)] (.bool (eqvL (encPiece a) (encPiece b))) := by
 rw [eqv_Piece]
 exact eq_piece h.l fun x hm y _ => rsame_cnd (h.s x hm)
theorem rsame_set {a b : PSet} (h : OkPSet a) : Sp theEnv 51 [.agg (encPSet a), .agg (encPSet b)] (.bool (eqvL (encPSet a) (encPSet b))) := by
 refine Sp.fn rfl rfl rfl (by simp only [go_sem, Ra, Rb, Rc, Rd, Re, Rf, Rg, Rh, Ri, Rj, reduceIte, reduceCtorEq, Rk]) (by simp only [go_sem, Ra, Rb, Rc, Rd, Re, Rf, Rg, Rh, Ri, Rj, reduceIte, reduceCtorEq, Rk, implies_true]) fun S => ?_; simp only [a51, c51, go_sem, Ra, Rb, Rc, Rd, Re, Rf, Rg, Rh, Ri, Rj, reduceIte, reduceCtorEq, Rk]
 rw [Run_if]
 simp only [go_sem, Ra, Rb, Rc, Rd, Re, Rf, Rg, Rh, Ri, Rj, reduceIte, reduceCtorEq, Rk]
 by_cases hk : a.dim = b.dim
 ·by_cases hl : a.pieces.length = b.pieces.length
  ·simp only [hl, hk, go_sem, Ra, Rb, Rc, Rd, Re, Rf, Rg, Rh, Ri, Rj, reduceIte, reduceCtorEq, Rk]
   refine Run_range a.pieces.length [2, 3] [] (fun k _ S' => (∃ B, S' = ⟨encPSet a :: encPSet b :: B, none⟩ :: S) ∧ EqTo (a.pieces.map encPiece) (b.pieces.map encPiece) k) h.l (by simp only [go_sem, Ra, Rb, Rc, Rd, Re, Rf, Rg, Rh, Ri, Rj, reduceIte, reduceCtorEq, Rk]) (by simp only [go_sem, Ra, Rb, Rc, Rd, Re, Rf, Rg, Rh, Ri, Rj, reduceIte, reduceCtorEq, Rk, hl]) rfl rfl rfl rfl (by simp only [go_sem, Ra, Rb, Rc, Rd, Re, Rf, Rg, Rh, Ri, Rj, reduceIte, reduceCtorEq, Rk]) ⟨⟨_, rfl⟩, EqTo.zero⟩ ?_ ?_
   ·rintro k F _ hk' ⟨⟨B, rfl⟩, hB⟩ hi hkept
    simp only [go_sem, Ra, Rb, Rc, Rd, Re, Rf, Rg, Rh, Ri, Rj, reduceIte, reduceCtorEq, Rk] at hkept
    obtain ⟨x, hx⟩ : ∃ x, a.pieces[k]? = some x := ⟨a.pieces[k], List.getElem?_eq_getElem hk'⟩
    obtain ⟨y, hy⟩ : ∃ y, b.pieces[k]? = some y := ⟨b.pieces[k]'(by omega), List.getElem?_eq_getElem (by omega)⟩
    simp only [go_sem, Ra, Rb, Rc, Rd, Re, Rf, Rg, Rh, Ri, Rj, reduceIte, reduceCtorEq, Rk, hkept, hi, iaO_map hx, iaO_map hy, (rsame_piece (b := y) (h.s x (List.mem_of_getElem? hx))).call, Run_if, eqv_PSet]
    split
    ·rename_i he
     simp only [eqvR_at (map_at hx) (map_at hy) he, go_sem, Ra, Rb, Rc, Rd, Re, Rf, Rg, Rh, Ri, Rj, reduceIte, reduceCtorEq, Rk]
    ·rename_i he
     exact EqTo.succ hB (map_at hx) (map_at hy) (by simpa only [Bool.not_eq_false] using he)
   ·rintro F _ ⟨⟨B, rfl⟩, hB⟩ hkept
    simp only [go_sem, Ra, Rb, Rc, Rd, Re, Rf, Rg, Rh, Ri, Rj, reduceIte, reduceCtorEq, Rk, eqv_PSet, hk, EqTo.all (xs := a.pieces.map encPiece) (ys := b.pieces.map encPiece) (by simpa using hl) (by simpa using hB)]
  ·simp only [hk, hl, go_sem, Ra, Rb, Rc, Rd, Re, Rf, Rg, Rh, Ri, Rj, reduceIte, reduceCtorEq, Rk, eqv_PSet, eqvR_map_len hl]
 ·simp only [hk, go_sem, Ra, Rb, Rc, Rd, Re, Rf, Rg, Rh, Ri, Rj, reduceIte, reduceCtorEq, Rk, eqv_PSet]
theorem rsame_ref {a b : Ref} (h : OkRef a) : Sp theEnv 18 [.agg (encRef a), .agg (encRef b)] (.bool (eqvL (encRef a) (encRef b))) := by
 refine Sp.fn rfl rfl rfl (by simp only [go_sem, Ra, Rb, Rc, Rd, Re, Rf, Rg, Rh, Ri, Rj, reduceIte, reduceCtorEq, Rk]) (by simp only [go_sem, Ra, Rb, Rc, Rd, Re, Rf, Rg, Rh, Ri, Rj, reduceIte, reduceCtorEq, Rk, implies_true]) fun S => ?_; simp only [a18, c18, go_sem, Ra, Rb, Rc, Rd, Re, Rf, Rg, Rh, Ri, Rj, reduceIte, reduceCtorEq, Rk]
 simp only [go_sem, Ra, Rb, Rc, Rd, Re, Rf, Rg, Rh, Ri, Rj, reduceIte, reduceCtorEq, Rk, (rsame_lins h.l h.s).callG, eqv_Ref]
theorem rsame_exp : ∀ x, OkExp x → ∀ y, Sp theEnv 52 [.agg (encExp x), .agg (encExp y)] (.bool (eqvL (encExp x) (encExp y))) := by
 refine Exp.ind fun x ih hx y => ?_
 refine Sp.fn rfl rfl rfl (by simp only [go_sem, Ra, Rb, Rc, Rd, Re, Rf, Rg, Rh, Ri, Rj, reduceIte, reduceCtorEq, Rk]) (by simp only [go_sem, Ra, Rb, Rc, Rd, Re, Rf, Rg, Rh, Ri, Rj, reduceIte, reduceCtorEq, Rk, implies_true]) fun S => ?_; simp only [a52, c52, go_sem, Ra, Rb, Rc, Rd, Re, Rf, Rg, Rh, Ri, Rj, reduceIte, reduceCtorEq, Rk]
 simp only [(rsame_lin hx.l').callG, (rsame_ref hx.r').callG, go_sem, Ra, Rb, Rc, Rd, Re, Rf, Rg, Rh, Ri, Rj, reduceIte, reduceCtorEq, Rk]
 rw [Run_if]
 simp only [go_sem, Ra, Rb, Rc, Rd, Re, Rf, Rg, Rh, Ri, Rj, reduceIte, reduceCtorEq, Rk]
 have hA : eqvL (encExp x) (encExp y) = (decide (x.op = y.op) && decide (x.k = y.k) && eqvL (encLin x.l) (encLin y.l) && eqvL (encRef x.r) (encRef y.r) && eqvR (x.args.map encExp) (y.args.map encExp)) := eqv_Exp
 have hlen : x.args.length ≠ y.args.length → eqvR (x.args.map encExp) (y.args.map encExp) = false := eqvR_map_len
 split
 ·rename_i hc
  rw [hA]
  clear hA
  grind
 ·rename_i hc
  simp only [Bool.or_eq_true, Bool.not_eq_true', not_or, Bool.not_eq_false, decide_eq_false_iff_not, Decidable.not_not] at hc
  obtain ⟨⟨⟨⟨h1, h2⟩, h3⟩, h4⟩, hl⟩ := hc
  refine Run_range x.args.length [2, 3] [] (fun k _ S' => (∃ B, S' = ⟨encExp x :: encExp y :: B, none⟩ :: S) ∧ EqTo (x.args.map encExp) (y.args.map encExp) k) hx.n' (by simp only [go_sem, Ra, Rb, Rc, Rd, Re, Rf, Rg, Rh, Ri, Rj, reduceIte, reduceCtorEq, Rk]) (by simp only [go_sem, Ra, Rb, Rc, Rd, Re, Rf, Rg, Rh, Ri, Rj, reduceIte, reduceCtorEq, Rk, hl]) rfl rfl rfl rfl (by simp only [go_sem, Ra, Rb, Rc, Rd, Re, Rf, Rg, Rh, Ri, Rj, reduceIte, reduceCtorEq, Rk]) ⟨⟨_, rfl⟩, EqTo.zero⟩ ?_ ?_
  ·rintro k F _ hk' ⟨⟨B, rfl⟩, hB⟩ hi hkept
   simp only [go_sem, Ra, Rb, Rc, Rd, Re, Rf, Rg, Rh, Ri, Rj, reduceIte, reduceCtorEq, Rk] at hkept
   obtain ⟨u, hu⟩ : ∃ u, x.args[k]? = some u := ⟨x.args[k], List.getElem?_eq_getElem hk'⟩
   obtain ⟨v, hv⟩ : ∃ v, y.args[k]? = some v := ⟨y.args[k]'(by omega), List.getElem?_eq_getElem (by omega)⟩
   have hm := List.mem_of_getElem? hu
   simp only [go_sem, Ra, Rb, Rc, Rd, Re, Rf, Rg, Rh, Ri, Rj, reduceIte, reduceCtorEq, Rk, hkept, hi, iaO_map hu, iaO_map hv, (ih u hm (hx.s' u hm) v).call, Run_if]
   split
   ·rename_i he
    simp only [hA, eqvR_at (map_at hu) (map_at hv) he, go_sem, Ra, Rb, Rc, Rd, Re, Rf, Rg, Rh, Ri, Rj, reduceIte, reduceCtorEq, Rk]
   ·rename_i he
    exact EqTo.succ hB (map_at hu) (map_at hv) (by simpa only [Bool.not_eq_false] using he)
  ·rintro F _ ⟨⟨B, rfl⟩, hB⟩ hkept
   simp only [go_sem, Ra, Rb, Rc, Rd, Re, Rf, Rg, Rh, Ri, Rj, reduceIte, reduceCtorEq, Rk, hA, h1, h2, h3, h4, EqTo.all (xs := x.args.map encExp) (ys := y.args.map encExp) (by simpa using hl) (by simpa using hB)]
theorem rsame_bound {a b : Bound} (h : OkBound a) : Sp theEnv 50 [.agg (encBound a), .agg (encBound b)] (.bool (eqvL (encBound a) (encBound b))) := by
 refine Sp.fn rfl rfl rfl (by simp only [go_sem, Ra, Rb, Rc, Rd, Re, Rf, Rg, Rh, Ri, Rj, reduceIte, reduceCtorEq, Rk]) (by simp only [go_sem, Ra, Rb, Rc, Rd, Re, Rf, Rg, Rh, Ri, Rj, reduceIte, reduceCtorEq, Rk, implies_true]) fun S => ?_; simp only [a50, c50, go_sem, Ra, Rb, Rc, Rd, Re, Rf, Rg, Rh, Ri, Rj, reduceIte, reduceCtorEq, Rk]
 rw [Run_if]
 simp only [go_sem, Ra, Rb, Rc, Rd, Re, Rf, Rg, Rh, Ri, Rj, reduceIte, reduceCtorEq, Rk]
 by_cases hl : a.parts.length = b.parts.length
 ·simp only [hl, go_sem, Ra, Rb, Rc, Rd, Re, Rf, Rg, Rh, Ri, Rj, reduceIte, reduceCtorEq, Rk]
  refine Run_range a.parts.length [2, 3] [] (fun k _ S' => (∃ B, S' = ⟨encBound a :: encBound b :: B, none⟩ :: S) ∧ EqTo (a.parts.map encPart) (b.parts.map encPart) k) h.l (by simp only [go_sem, Ra, Rb, Rc, Rd, Re, Rf, Rg, Rh, Ri, Rj, reduceIte, reduceCtorEq, Rk]) (by simp only [go_sem, Ra, Rb, Rc, Rd, Re, Rf, Rg, Rh, Ri, Rj, reduceIte, reduceCtorEq, Rk, hl]) rfl rfl rfl rfl (by simp only [go_sem, Ra, Rb, Rc, Rd, Re, Rf, Rg, Rh, Ri, Rj, reduceIte, reduceCtorEq, Rk]) ⟨⟨_, rfl⟩, EqTo.zero⟩ ?_ ?_
  ·rintro k F _ hk' ⟨⟨B, rfl⟩, hB⟩ hi hkept
   simp only [go_sem, Ra, Rb, Rc, Rd, Re, Rf, Rg, Rh, Ri, Rj, reduceIte, reduceCtorEq, Rk] at hkept
   obtain ⟨x, hx⟩ : ∃ x, a.parts[k]? = some x := ⟨a.parts[k], List.getElem?_eq_getElem hk'⟩
   obtain ⟨y, hy⟩ : ∃ y, b.parts[k]? = some y := ⟨b.parts[k]'(by omega), List.getElem?_eq_getElem (by omega)⟩
   simp only [go_sem, Ra, Rb, Rc, Rd, Re, Rf, Rg, Rh, Ri, Rj, reduceIte, reduceCtorEq, Rk, hkept, hi, iaO_map hx, iaO_map hy, Run_if]
   split
   ·rename_i he
    simp only [eqv_Bound, eqvR_at (map_at hx) (map_at hy) (by rw [eqv_Part]; exact eqvR_map_len (by simpa using he))]
   ·rename_i he
    have hr : x.rows.length = y.rows.length := by simpa using he
    have hxo := h.s x (List.mem_of_getElem? hx)
    refine Run_range x.rows.length [2, 3, 5, 19] [] (fun j _ S' => (∃ B, S' = ⟨encBound a :: encBound b :: B, none⟩ :: S) ∧ EqTo (x.rows.map encRw) (y.rows.map encRw) j) hxo.l (by simp only [go_sem, Ra, Rb, Rc, Rd, Re, Rf, Rg, Rh, Ri, Rj, reduceIte, reduceCtorEq, Rk, hkept]) (by simp only [go_sem, Ra, Rb, Rc, Rd, Re, Rf, Rg, Rh, Ri, Rj, reduceIte, reduceCtorEq, Rk, hkept]) rfl rfl rfl rfl (by simp only [go_sem, Ra, Rb, Rc, Rd, Re, Rf, Rg, Rh, Ri, Rj, reduceIte, reduceCtorEq, Rk, hkept, hi]) ⟨⟨_, rfl⟩, EqTo.zero⟩ ?_ ?_
    ·rintro j F2 _ hj ⟨⟨B2, rfl⟩, hB2⟩ hi2 hkept2
     simp only [go_sem, Ra, Rb, Rc, Rd, Re, Rf, Rg, Rh, Ri, Rj, reduceIte, reduceCtorEq, Rk, hkept, hi] at hkept2
     obtain ⟨u, hu⟩ : ∃ u, x.rows[j]? = some u := ⟨x.rows[j], List.getElem?_eq_getElem hj⟩
     obtain ⟨v, hv⟩ : ∃ v, y.rows[j]? = some v := ⟨y.rows[j]'(by omega), List.getElem?_eq_getElem (by omega)⟩
     have huo := hxo.s u (List.mem_of_getElem? hu)
     simp only [go_sem, Ra, Rb, Rc, Rd, Re, Rf, Rg, Rh, Ri, Rj, reduceIte, reduceCtorEq, Rk, hkept2, hi2, iaO_map hx, iaO_map hy, iaO_map hu, iaO_map hv, Wk_enter, (rsame_lin (b := v.l) huo.l).callG, Run_if]
     split
     ·rename_i hd
      have h2 : eqvL (encRw u) (encRw v) = false := by rw [eqv_Rw]; grind
      simp only [eqv_Bound, eqvR_at (map_at hx) (map_at hy) (by rw [eqv_Part]; exact eqvR_at (map_at hu) (map_at hv) h2), implies_true]
     ·rename_i hd
      exact EqTo.succ hB2 (map_at hu) (map_at hv) (by rw [eqv_Rw]; grind)
    ·rintro F2 _ ⟨⟨B2, rfl⟩, hB2⟩ hkept2
     simp only [go_sem, Ra, Rb, Rc, Rd, Re, Rf, Rg, Rh, Ri, Rj, reduceIte, reduceCtorEq, Rk]
     exact EqTo.succ hB (map_at hx) (map_at hy) (by rw [eqv_Part]; exact EqTo.all (by simpa using hr) (by simpa using hB2))
  ·rintro F _ ⟨⟨B, rfl⟩, hB⟩ hkept
   simp only [go_sem, Ra, Rb, Rc, Rd, Re, Rf, Rg, Rh, Ri, Rj, reduceIte, reduceCtorEq, Rk, eqv_Bound, EqTo.all (xs := a.parts.map encPart) (ys := b.parts.map encPart) (by simpa using hl) (by simpa using hB)]
 ·simp only [hl, go_sem, Ra, Rb, Rc, Rd, Re, Rf, Rg, Rh, Ri, Rj, reduceIte, reduceCtorEq, Rk, eqv_Bound, eqvR_map_len hl]
theorem rsame_stm : ∀ x, OkStm x → ∀ y, Sp theEnv 17 [.agg (encStm x), .agg (encStm y)] (.bool (eqvL (encStm x) (encStm y))) := by
 refine Stm.ind fun x ihb ihe hx y => ?_
 have hb := eq_body (b1 := x.bn) (b2 := y.bn) (l1 := x.body) (l2 := y.body) hx.bn' fun a hm b _ => ihb a hm (hx.body' a hm) b
 have he := eq_body (b1 := x.en) (b2 := y.en) (l1 := x.els) (l2 := y.els) hx.en' fun a hm b _ => ihe a hm (hx.els' a hm) b
 refine Sp.fn rfl rfl rfl (by simp only [go_sem, Ra, Rb, Rc, Rd, Re, Rf, Rg, Rh, Ri, Rj, reduceIte, reduceCtorEq, Rk]) (by simp only [go_sem, Ra, Rb, Rc, Rd, Re, Rf, Rg, Rh, Ri, Rj, reduceIte, reduceCtorEq, Rk, implies_true]) fun S => ?_; simp only [a17, c17, go_sem, Ra, Rb, Rc, Rd, Re, Rf, Rg, Rh, Ri, Rj, reduceIte, reduceCtorEq, Rk]
 simp only [go_sem, Ra, Rb, Rc, Rd, Re, Rf, Rg, Rh, Ri, Rj, reduceIte, reduceCtorEq, Rk, (rsame_bound hx.low').callG, (rsame_bound hx.high').callG, (rsame_set hx.test').callG, (rsame_ref hx.target').callG, (rsame_exp x.value hx.value' y.value).callG, hb.callG, he.callG, eqv_Stm]
theorem rsame_bodies {b1 b2 : Bool} {l1 l2 : List Stm} (h : l1.length ≤ LIM) (hx : ∀ x ∈ l1, OkStm x) : Sp theEnv 53 [.slice (nk b1) (l1.map encStm), .slice (nk b2) (l2.map encStm)] (.bool (eqvR (l1.map encStm) (l2.map encStm))) :=
 eq_body h fun x hm y _ => rsame_stm x (hx x hm) y
theorem ref_same {p q : Prg} (hp : OkPrg p) : Sp theEnv 25 [.agg (encPrg p), .agg (encPrg q)] (.bool (eqvL (encPrg p) (encPrg q))) := by
 refine Sp.fn rfl rfl rfl (by simp only [go_sem, Ra, Rb, Rc, Rd, Re, Rf, Rg, Rh, Ri, Rj, reduceIte, reduceCtorEq, Rk]) (by simp only [go_sem, Ra, Rb, Rc, Rd, Re, Rf, Rg, Rh, Ri, Rj, reduceIte, reduceCtorEq, Rk, implies_true]) fun S => ?_; simp only [a25, c25, go_sem, Ra, Rb, Rc, Rd, Re, Rf, Rg, Rh, Ri, Rj, reduceIte, reduceCtorEq, Rk]
 simp only [go_sem, Ra, Rb, Rc, Rd, Re, Rf, Rg, Rh, Ri, Rj, reduceIte, reduceCtorEq, Rk, (eq_names hp.pl).call, (rsame_bodies hp.bl hp.bs).callG]
 rw [Run_if]
 simp only [go_sem, Ra, Rb, Rc, Rd, Re, Rf, Rg, Rh, Ri, Rj, reduceIte, reduceCtorEq, Rk]
 split
 ·rename_i hc
  have hlen : p.arrays.length ≠ q.arrays.length → eqvR (p.arrays.map encArr) (q.arrays.map encArr) = false := eqvR_map_len
  rw [eqv_Prg]
  grind
 ·rename_i hc
  simp only [Bool.or_eq_true, Bool.not_eq_true', not_or, Bool.not_eq_false, decide_eq_false_iff_not, Decidable.not_not] at hc
  obtain ⟨⟨h1, hl⟩, h2⟩ := hc
  refine Run_range p.arrays.length [2, 3] [] (fun k _ S' => (∃ B, S' = ⟨encPrg p :: encPrg q :: B, none⟩ :: S) ∧ EqTo (p.arrays.map encArr) (q.arrays.map encArr) k) hp.al (by simp only [go_sem, Ra, Rb, Rc, Rd, Re, Rf, Rg, Rh, Ri, Rj, reduceIte, reduceCtorEq, Rk]) (by simp only [go_sem, Ra, Rb, Rc, Rd, Re, Rf, Rg, Rh, Ri, Rj, reduceIte, reduceCtorEq, Rk, hl]) rfl rfl rfl rfl (by simp only [go_sem, Ra, Rb, Rc, Rd, Re, Rf, Rg, Rh, Ri, Rj, reduceIte, reduceCtorEq, Rk]) ⟨⟨_, rfl⟩, EqTo.zero⟩ ?_ ?_
  ·rintro k F _ hk' ⟨⟨B, rfl⟩, hB⟩ hi hkept
   simp only [go_sem, Ra, Rb, Rc, Rd, Re, Rf, Rg, Rh, Ri, Rj, reduceIte, reduceCtorEq, Rk] at hkept
   obtain ⟨u, hu⟩ : ∃ u, p.arrays[k]? = some u := ⟨p.arrays[k], List.getElem?_eq_getElem hk'⟩
   obtain ⟨v, hv⟩ : ∃ v, q.arrays[k]? = some v := ⟨q.arrays[k]'(by omega), List.getElem?_eq_getElem (by omega)⟩
   have huo := hp.as u (List.mem_of_getElem? hu)
   simp only [go_sem, Ra, Rb, Rc, Rd, Re, Rf, Rg, Rh, Ri, Rj, reduceIte, reduceCtorEq, Rk, hkept, hi, iaO_map hu, iaO_map hv, (rsame_lins huo.l huo.s).callG, Run_if]
   split
   ·rename_i he
    have h3 : eqvL (encArr u) (encArr v) = false := by rw [eqv_Arr]; grind
    simp only [eqv_Prg, eqvR_at (map_at hu) (map_at hv) h3, go_sem, Ra, Rb, Rc, Rd, Re, Rf, Rg, Rh, Ri, Rj, reduceIte, reduceCtorEq, Rk]
   ·rename_i he
    exact EqTo.succ hB (map_at hu) (map_at hv) (by rw [eqv_Arr]; grind)
  ·rintro F _ ⟨⟨B, rfl⟩, hB⟩ hkept
   simp only [go_sem, Ra, Rb, Rc, Rd, Re, Rf, Rg, Rh, Ri, Rj, reduceIte, reduceCtorEq, Rk, eqv_Prg, h1, h2, EqTo.all (xs := p.arrays.map encArr) (ys := q.arrays.map encArr) (by simpa using hl) (by simpa using hB)]
end Wp
end AM
end Go.Proofs.YtimfbnojmdnlnaaGreat
