/- The reference's copies of expressions and bounds; The reference's copies of sets and of the terms of an assignment; The reference's copies of statements and programs. -/
import Derived.Test.YtimfbnojmdnlnaaGreatKSeD
import Derived.Test.YtimfbnojmdnlnaaGreatKM29
import Derived.Test.YtimfbnojmdnlnaaGreatKM23
set_option linter.unusedVariables false
set_option linter.unusedSimpArgs false
set_option maxRecDepth 100000
section
namespace Go.Proofs.YtimfbnojmdnlnaaGreat
open Nat renaming reduceEqDiff → Ra, reduceAdd → Rb, reduceLeDiff → Rc, reduceMul → Rd, reduceSub → Re, reduceLT → Rk
open Int renaming reduceLT → Rf, reduceLE → Rg, reduceEq → Rh, reduceAdd → Ri, reduceNeg → Rj
namespace AM
namespace Wp
theorem rwtR_len {α : Type} {enc : α → List V} (h1 : ∀ x, 1 ≤ wtL (enc x)) : ∀ l : List α, l.length ≤ wtR (l.map enc)
 | [] => by simp
 | x :: l => by
  have := h1 x
  have := rwtR_len h1 l
  simp only [List.map_cons, wtR, List.length_cons]; omega
theorem rwt_Lin (x : Lin) : wtL (encLin x) = 2 + wtR (x.c.map encI) := by simp only [encLin, wtL, wt]; omega
theorem rwt_Ref (x : Ref) : wtL (encRef x) = 2 + wtR (x.subs.map encLin) := by simp only [encRef, wtL, wt]; omega
theorem rwt_part {α : Type} {enc : α → List V} {l : List α} {y : α} (h : y ∈ l) : wtL (enc y) ≤ wtR (l.map enc) := wtR_mem (List.mem_map_of_mem (f := enc) h)
theorem rsm_lin {x : Lin} {M : Nat} (h : wtL (encLin x) ≤ M) : x.c.length ≤ M := by
 have := rwtR_len (enc := encI) (fun x => by simp [encI, wtL, wt]) x.c
 rw [rwt_Lin] at h; omega
theorem rwl_Exp (x : Exp) : wtL (encExp x) = 3 + wtL (encLin x.l) + wtL (encRef x.r) + wtR (x.args.map encExp) := by
 cases x
 simp only [encExp, wtL_append, wtL, wt, encExps_map]; omega
theorem rwl_Rw (x : Rw) : wtL (encRw x) = 1 + wtL (encLin x.l) := by simp only [encRw, wtL_append, wtL, wt]; omega
theorem rwl_Part (x : Part) : wtL (encPart x) = 1 + wtR (x.rows.map encRw) := by simp only [encPart, wtL, wt]; omega
theorem rwl_Bound (x : Bound) : wtL (encBound x) = 1 + wtR (x.parts.map encPart) := by simp only [encBound, wtL, wt]; omega
theorem app_cp {e n b : Nat} {k : SK} {ys : List (List V)} (h : allLen n ys = true) (h1 : ys.length ≤ 1000000000) (h2 : b ≤ 1000) : appO e n b (.slice (.own e) []) (.slice k ys) = some (.slice (.own e) ys) := by
 have h3 : (([] : List (List V)).length + ys.length) * b ≤ 140737488355328 := by
  simp only [List.length_nil, Nat.zero_add]
  calc ys.length * b ≤ 1000000000 * 1000 := Nat.mul_le_mul h1 h2
   _ ≤ _ := by decide
 have := appO_own (e := e) (k := k) (xs := []) h h3 (by simp; omega)
 simpa using this
def rcLin (x : Lin) : Lin := ⟨false, x.c, x.k⟩
theorem rclins_ok {b : Bool} {l : List Lin} (hl : l.length ≤ 1000000000) (hs : ∀ y ∈ l, y.c.length ≤ 1000000000) : Sp theEnv 74 [.slice (nk b) (l.map encLin)] (grown 48 ((l.map rcLin).map encLin)) := by
 refine Sp.fn rfl rfl rfl (by simp only [go_sem, Ra, Rb, Rc, Rd, Re, Rf, Rg, Rh, Ri, Rj, reduceIte, reduceCtorEq, Rk]) (by simp only [go_sem, Ra, Rb, Rc, Rd, Re, Rf, Rg, Rh, Ri, Rj, reduceIte, reduceCtorEq, Rk, implies_true]) fun S => ?_; simp only [a74, c74, go_sem, Ra, Rb, Rc, Rd, Re, Rf, Rg, Rh, Ri, Rj, reduceIte, reduceCtorEq, Rk]
 refine Run_range l.length [6] [3] (fun k vs S' => vs = [grown 48 (((l.take k).map rcLin).map encLin)] ∧ ∃ B, S' = ⟨B, none⟩ :: S) (Nat.le_trans hl (by decide)) (by simp only [go_sem, Ra, Rb, Rc, Rd, Re, Rf, Rg, Rh, Ri, Rj, reduceIte, reduceCtorEq, Rk]) (by simp only [go_sem, Ra, Rb, Rc, Rd, Re, Rf, Rg, Rh, Ri, Rj, reduceIte, reduceCtorEq, Rk]) rfl rfl rfl rfl (by simp only [go_sem, Ra, Rb, Rc, Rd, Re, Rf, Rg, Rh, Ri, Rj, reduceIte, reduceCtorEq, Rk]) ⟨by simp only [go_sem, Ra, Rb, Rc, Rd, Re, Rf, Rg, Rh, Ri, Rj, reduceIte, reduceCtorEq, Rk, List.take_zero, List.map_nil, grown_nil], _, rfl⟩ ?_ ?_
 ·rintro k F _ hk ⟨hv, B, rfl⟩ hi hkept
  simp only [go_sem, Ra, Rb, Rc, Rd, Re, Rf, Rg, Rh, Ri, Rj, reduceIte, reduceCtorEq, Rk] at hkept hv
  obtain ⟨y, hy⟩ : ∃ y, l[k]? = some y := ⟨l[k], List.getElem?_eq_getElem hk⟩
  have hyl := hs y (List.mem_of_getElem? hy)
  have g := app_gr (enc := encLin) (e := 48) (n := 2) (b := 32) (k := .own 48) (l := (l.take k).map rcLin) (x := rcLin y) (len_Lin _) (by simp; omega) (by decide)
  have e1 : encLin (rcLin y) = [.slice .shut (y.c.map encI), .int .i64 y.k] := rfl
  have a1 := app_cp (e := 3) (n := 1) (b := 8) (k := nk y.n) (ys := y.c.map encI) (lens_I _) (by simpa using hyl) (by decide)
  rw [take_snoc' hy, List.map_append, List.map_cons, List.map_nil]
  rw [e1] at g
  simp only [go_sem, Ra, Rb, Rc, Rd, Re, Rf, Rg, Rh, Ri, Rj, reduceIte, reduceCtorEq, Rk, hkept, hi, hv, iaO_map hy, a1, g, Wk_enter]
 ·rintro F _ ⟨hv, B, rfl⟩ hkept
  simp only [go_sem, Ra, Rb, Rc, Rd, Re, Rf, Rg, Rh, Ri, Rj, reduceIte, reduceCtorEq, Rk] at hkept hv
  rw [List.take_length] at hv
  simp only [go_sem, Ra, Rb, Rc, Rd, Re, Rf, Rg, Rh, Ri, Rj, reduceIte, reduceCtorEq, Rk, hkept, hv]
theorem rclin1_ok {y : Lin} (hy : y.c.length ≤ 1000000000) : Sp theEnv 74 [.slice .shut [encLin y]] (.slice (.own 48) [encLin (rcLin y)]) :=
 rclins_ok (b := false) (l := [y]) (by simp) (by simpa using hy)
def rcRw (r : Rw) : Rw := ⟨rcLin r.l, r.div⟩
def rcPart (q : Part) : Part := ⟨q.rows.isEmpty, q.rows.map rcRw⟩
def rcBound (b : Bound) : Bound := ⟨b.parts.isEmpty, b.parts.map rcPart⟩
theorem rcbound_ok {x : Bound} (h : OkBound x) (hs : wtL (encBound x) ≤ 1000000000) : Sp theEnv 108 [.agg (encBound x)] (.agg (encBound (rcBound x))) := by
 rw [rwl_Bound] at hs
 have hn := rwtR_len (enc := encPart) (fun x => by rw [rwl_Part]; omega) x.parts
 refine Sp.fn rfl rfl rfl (by simp only [go_sem, Ra, Rb, Rc, Rd, Re, Rf, Rg, Rh, Ri, Rj, reduceIte, reduceCtorEq, Rk]) (by simp only [go_sem, Ra, Rb, Rc, Rd, Re, Rf, Rg, Rh, Ri, Rj, reduceIte, reduceCtorEq, Rk, implies_true]) fun S => ?_; simp only [a108, c108, go_sem, Ra, Rb, Rc, Rd, Re, Rf, Rg, Rh, Ri, Rj, reduceIte, reduceCtorEq, Rk]
 refine Run_range x.parts.length [2, 3, 10] [] (fun k _ S' => ∃ B, S' = ⟨encBound x :: [.slice .nil []] :: [grown 151 ((x.parts.take k).map fun q => encPart (rcPart q))] :: B, none⟩ :: S) h.l (by simp only [go_sem, Ra, Rb, Rc, Rd, Re, Rf, Rg, Rh, Ri, Rj, reduceIte, reduceCtorEq, Rk]) (by simp only [go_sem, Ra, Rb, Rc, Rd, Re, Rf, Rg, Rh, Ri, Rj, reduceIte, reduceCtorEq, Rk]) rfl rfl rfl rfl (by simp only [go_sem, Ra, Rb, Rc, Rd, Re, Rf, Rg, Rh, Ri, Rj, reduceIte, reduceCtorEq, Rk]) ⟨_, rfl⟩ ?_ ?_
 ·rintro k F _ hk ⟨B, rfl⟩ hi hkept
  simp only [go_sem, Ra, Rb, Rc, Rd, Re, Rf, Rg, Rh, Ri, Rj, reduceIte, reduceCtorEq, Rk] at hkept
  obtain ⟨q, hq⟩ : ∃ y, x.parts[k]? = some y := ⟨x.parts[k], List.getElem?_eq_getElem hk⟩
  have hm := List.mem_of_getElem? hq
  have hqo := h.s q hm
  have hsq := rwt_part (enc := encPart) hm
  rw [rwl_Part] at hsq
  have hn2 := rwtR_len (enc := encRw) (fun x => by rw [rwl_Rw]; omega) q.rows
  simp only [go_sem, Ra, Rb, Rc, Rd, Re, Rf, Rg, Rh, Ri, Rj, reduceIte, reduceCtorEq, Rk, hkept, hi, iaO_map hq]
  refine Run_range q.rows.length [2, 3, 10, 12, 16] [6] (fun j vs S' => vs = [grown 169 (((q.rows.take j).map rcRw).map encRw)] ∧ ∃ B2, S' = ⟨encBound x :: [.slice .nil []] :: [grown 151 ((x.parts.take k).map fun q => encPart (rcPart q))] :: B2, none⟩ :: S) hqo.l (by simp only [go_sem, Ra, Rb, Rc, Rd, Re, Rf, Rg, Rh, Ri, Rj, reduceIte, reduceCtorEq, Rk, hkept]) (by simp only [go_sem, Ra, Rb, Rc, Rd, Re, Rf, Rg, Rh, Ri, Rj, reduceIte, reduceCtorEq, Rk, hkept]) rfl rfl rfl rfl (by simp only [go_sem, Ra, Rb, Rc, Rd, Re, Rf, Rg, Rh, Ri, Rj, reduceIte, reduceCtorEq, Rk, hkept, hi]) ⟨by simp only [go_sem, Ra, Rb, Rc, Rd, Re, Rf, Rg, Rh, Ri, Rj, reduceIte, reduceCtorEq, Rk, List.take_zero, List.map_nil], _, rfl⟩ ?_ ?_
  ·rintro j F2 _ hj ⟨hv, B2, rfl⟩ hi2 hkept2
   simp only [go_sem, Ra, Rb, Rc, Rd, Re, Rf, Rg, Rh, Ri, Rj, reduceIte, reduceCtorEq, Rk, hkept, hi] at hkept2 hv
   obtain ⟨y, hy⟩ : ∃ y, q.rows[j]? = some y := ⟨q.rows[j], List.getElem?_eq_getElem hj⟩
   have hmy := List.mem_of_getElem? hy
   have hsy := rwt_part (enc := encRw) hmy
   rw [rwl_Rw] at hsy
   have hc := rclin1_ok (y := y.l) (rsm_lin (M := 1000000000) (by omega))
   have g := app_gr (enc := encRw) (e := 169) (n := 3) (b := 40) (k := .own 169) (l := (q.rows.take j).map rcRw) (x := rcRw y) (len_Rw _) (by simp; omega) (by decide)
   have e1 : encLin (rcLin y.l) = [.slice .shut (y.l.c.map encI), .int .i64 y.l.k] := rfl
   have e2 : encRw (rcRw y) = [.slice .shut (y.l.c.map encI), .int .i64 y.l.k, .int .i64 y.div] := rfl
   rw [take_snoc' hy, List.map_append, List.map_cons, List.map_nil]
   rw [e2] at g
   have i0 : ∀ {K : SK} {kk : IntKind} {u : List V}, u.length = 2 → iaO 2 (.slice K [u]) (.int kk 0) = some (.look u) := fun {K kk u} hu => by
    have := iaO_at (n := 2) (k := 0) (K := K) (kk := kk) (xs := [u]) (c := u) rfl hu
    exact this
   simp only [go_sem, Ra, Rb, Rc, Rd, Re, Rf, Rg, Rh, Ri, Rj, reduceIte, reduceCtorEq, Rk, hkept2, hi2, hv, iaO_map hy, hc.call, i0 (len_Lin _), Wk_enter]
   simp only [e1, go_sem, Ra, Rb, Rc, Rd, Re, Rf, Rg, Rh, Ri, Rj, reduceIte, reduceCtorEq, Rk]
   simp only [g, go_sem, Ra, Rb, Rc, Rd, Re, Rf, Rg, Rh, Ri, Rj, reduceIte, reduceCtorEq, Rk, Wk_enter]
  ·rintro F2 _ ⟨hv, B2, rfl⟩ hkept2
   simp only [go_sem, Ra, Rb, Rc, Rd, Re, Rf, Rg, Rh, Ri, Rj, reduceIte, reduceCtorEq, Rk, hkept, hi] at hkept2 hv
   rw [List.take_length] at hv
   have e3 : [V.slice (nk (((q.rows.map rcRw).map encRw)).isEmpty) ((q.rows.map rcRw).map encRw)] = encPart (rcPart q) := by simp [encPart, rcPart]
   have hxs : ((x.parts.take k).map fun q => encPart (rcPart q)).length ≤ 1000000000 := by simp; omega
   rw [take_snoc' hq, List.map_append]
   revert hxs
   generalize ((x.parts.take k).map fun q => encPart (rcPart q)) = xs
   intro hxs
   cases xs with
   | nil => simp only [go_sem, Ra, Rb, Rc, Rd, Re, Rf, Rg, Rh, Ri, Rj, reduceIte, reduceCtorEq, Rk, hkept2, hv, e3, Wk_enter]
   | cons c xs => simp only [go_sem, Ra, Rb, Rc, Rd, Re, Rf, Rg, Rh, Ri, Rj, reduceIte, reduceCtorEq, Rk, hkept2, hv, e3, Wk_enter, app1 (len_Part _) hxs]
 ·rintro F _ ⟨B, rfl⟩ hkept
  simp only [go_sem, Ra, Rb, Rc, Rd, Re, Rf, Rg, Rh, Ri, Rj, reduceIte, reduceCtorEq, Rk] at hkept
  rw [List.take_length]
  generalize hg : grown 151 (x.parts.map fun a => encPart (rcPart a)) = w
  have f : cutV [w] 0 1 true = some (.agg (encBound (rcBound x))) := by
   have hw : strip w = .slice (nk x.parts.isEmpty) (x.parts.map fun a => encPart (rcPart a)) := by rw [← hg, strip_grown, List.isEmpty_map]
   simp only [cutV, cutL, ofCells, List.length_cons, List.length_nil, List.drop_zero, Nat.le_refl, Nat.zero_add, if_true, List.take, Option.bind_some, List.map_cons, List.map_nil, hw, encBound, rcBound, List.map_map, Function.comp_def, strip_nk]
  simp only [go_sem, Ra, Rb, Rc, Rd, Re, Rf, Rg, Rh, Ri, Rj, reduceIte, reduceCtorEq, Rk, hkept, f]
end Wp
end AM
end Go.Proofs.YtimfbnojmdnlnaaGreat
end
section
namespace Go.Proofs.YtimfbnojmdnlnaaGreat
open Nat renaming reduceEqDiff → Ra, reduceAdd → Rb, reduceLeDiff → Rc, reduceMul → Rd, reduceSub → Re, reduceLT → Rk
open Int renaming reduceLT → Rf, reduceLE → Rg, reduceEq → Rh, reduceAdd → Ri, reduceNeg → Rj
namespace AM
namespace Wp
theorem rwl_Cnd (x : Cnd) : wtL (encCnd x) = 2 + wtL (encLin x.l) := by cases x; simp only [encCnd, wtL_append, wtL, wt]
def raggC (a : V) : Option V → Option V
 | some (.agg l) => some (.agg (a :: l))
 | _ => none
theorem raggC_some {a : V} {l : List V} : raggC a (some (.agg l)) = some (.agg (a :: l)) := rfl
theorem rcutV_0 {cs : List V} : cutV cs 0 0 true = some (.agg []) := by simp [cutV, cutL, ofCells]
theorem rcutV_g {c : V} {cs : List V} {n : Nat} : cutV (c :: cs) 0 (n + 1) true = raggC (strip c) (cutV cs 0 n true) := by
 simp only [cutV, cutL, List.length_cons, List.drop_zero, Nat.zero_add]
 by_cases h : n ≤ cs.length
 ·rw [if_pos h, if_pos (by omega)]; simp [ofCells, raggC]
 ·rw [if_neg h, if_neg (by omega)]; rfl
theorem rwl_Piece (x : Piece) : wtL (encPiece x) = 1 + wtR (x.conds.map encCnd) := by simp only [encPiece, wtL, wt]; omega
theorem rwl_PSet (x : PSet) : wtL (encPSet x) = 2 + wtR (x.pieces.map encPiece) := by simp only [encPSet, wtL, wt]; omega
def rcCnd (c : Cnd) : Cnd := ⟨c.kind, c.m, rcLin c.l⟩
def rcPiece (q : Piece) : Piece := ⟨q.conds.isEmpty, q.conds.map rcCnd⟩
def rcPSet (t : PSet) : PSet := ⟨t.dim, t.pieces.isEmpty, t.pieces.map rcPiece⟩
theorem i0_lin {n : Nat} {K : SK} {kk : IntKind} {u : List V} (hu : u.length = n) : iaO n (.slice K [u]) (.int kk 0) = some (.look u) := iaO_at (n := n) (k := 0) (K := K) (kk := kk) (xs := [u]) (c := u) rfl hu
theorem rcset_ok {x : PSet} (h : OkPSet x) (hs : wtL (encPSet x) ≤ 1000000000) : Sp theEnv 109 [.agg (encPSet x)] (.agg (encPSet (rcPSet x))) := by
 rw [rwl_PSet] at hs
 have hn := rwtR_len (enc := encPiece) (fun x => by rw [rwl_Piece]; omega) x.pieces
 refine Sp.fn rfl rfl rfl (by simp only [go_sem, Ra, Rb, Rc, Rd, Re, Rf, Rg, Rh, Ri, Rj, reduceIte, reduceCtorEq, Rk]) (by simp only [go_sem, Ra, Rb, Rc, Rd, Re, Rf, Rg, Rh, Ri, Rj, reduceIte, reduceCtorEq, Rk, implies_true]) fun S => ?_; simp only [a109, c109, go_sem, Ra, Rb, Rc, Rd, Re, Rf, Rg, Rh, Ri, Rj, reduceIte, reduceCtorEq, Rk]
 refine Run_range x.pieces.length [2, 3, 13] [] (fun k _ S' => ∃ B, S' = ⟨encPSet x :: [.int .i64 0, .slice .nil []] :: [.int .i64 x.dim, grown 152 ((x.pieces.take k).map fun q => encPiece (rcPiece q))] :: B, none⟩ :: S) h.l (by simp only [go_sem, Ra, Rb, Rc, Rd, Re, Rf, Rg, Rh, Ri, Rj, reduceIte, reduceCtorEq, Rk]) (by simp only [go_sem, Ra, Rb, Rc, Rd, Re, Rf, Rg, Rh, Ri, Rj, reduceIte, reduceCtorEq, Rk]) rfl rfl rfl rfl (by simp only [go_sem, Ra, Rb, Rc, Rd, Re, Rf, Rg, Rh, Ri, Rj, reduceIte, reduceCtorEq, Rk]) ⟨_, rfl⟩ ?_ ?_
 ·rintro k F _ hk ⟨B, rfl⟩ hi hkept
  simp only [go_sem, Ra, Rb, Rc, Rd, Re, Rf, Rg, Rh, Ri, Rj, reduceIte, reduceCtorEq, Rk] at hkept
  obtain ⟨q, hq⟩ : ∃ y, x.pieces[k]? = some y := ⟨x.pieces[k], List.getElem?_eq_getElem hk⟩
  have hm := List.mem_of_getElem? hq
  have hqo := h.s q hm
  have hsq := rwt_part (enc := encPiece) hm
  rw [rwl_Piece] at hsq
  have hn2 := rwtR_len (enc := encCnd) (fun x => by rw [rwl_Cnd]; omega) q.conds
  simp only [go_sem, Ra, Rb, Rc, Rd, Re, Rf, Rg, Rh, Ri, Rj, reduceIte, reduceCtorEq, Rk, hkept, hi, iaO_map hq]
  refine Run_range q.conds.length [2, 3, 13, 15, 19] [6] (fun j vs S' => vs = [grown 204 (((q.conds.take j).map rcCnd).map encCnd)] ∧ ∃ B2, S' = ⟨encPSet x :: [.int .i64 0, .slice .nil []] :: [.int .i64 x.dim, grown 152 ((x.pieces.take k).map fun q => encPiece (rcPiece q))] :: B2, none⟩ :: S) hqo.l (by simp only [go_sem, Ra, Rb, Rc, Rd, Re, Rf, Rg, Rh, Ri, Rj, reduceIte, reduceCtorEq, Rk, hkept]) (by simp only [go_sem, Ra, Rb, Rc, Rd, Re, Rf, Rg, Rh, Ri, Rj, reduceIte, reduceCtorEq, Rk, hkept]) rfl rfl rfl rfl (by simp only [go_sem, Ra, Rb, Rc, Rd, Re, Rf, Rg, Rh, Ri, Rj, reduceIte, reduceCtorEq, Rk, hkept, hi]) ⟨by simp only [go_sem, Ra, Rb, Rc, Rd, Re, Rf, Rg, Rh, Ri, Rj, reduceIte, reduceCtorEq, Rk, List.take_zero, List.map_nil], _, rfl⟩ ?_ ?_
  ·rintro j F2 _ hj ⟨hv, B2, rfl⟩ hi2 hkept2
   simp only [go_sem, Ra, Rb, Rc, Rd, Re, Rf, Rg, Rh, Ri, Rj, reduceIte, reduceCtorEq, Rk, hkept, hi] at hkept2 hv
   obtain ⟨y, hy⟩ : ∃ y, q.conds[j]? = some y := ⟨q.conds[j], List.getElem?_eq_getElem hj⟩
   have hmy := List.mem_of_getElem? hy
   have hsy := rwt_part (enc := encCnd) hmy
   rw [rwl_Cnd] at hsy
   have hc := rclin1_ok (y := y.l) (rsm_lin (M := 1000000000) (by omega))
   have g := app_gr (enc := encCnd) (e := 204) (n := 4) (b := 48) (k := .own 204) (l := (q.conds.take j).map rcCnd) (x := rcCnd y) (len_Cnd _) (by simp; omega) (by decide)
   have e1 : encLin (rcLin y.l) = [.slice .shut (y.l.c.map encI), .int .i64 y.l.k] := rfl
   have e2 : encCnd (rcCnd y) = [.int .i64 y.kind, .int .i64 y.m, .slice .shut (y.l.c.map encI), .int .i64 y.l.k] := rfl
   rw [take_snoc' hy, List.map_append, List.map_cons, List.map_nil]
   rw [e2] at g
   simp only [go_sem, Ra, Rb, Rc, Rd, Re, Rf, Rg, Rh, Ri, Rj, reduceIte, reduceCtorEq, Rk, hkept2, hi2, hv, iaO_map hy, hc.call, i0_lin (len_Lin _), Wk_enter]
   simp only [e1, go_sem, Ra, Rb, Rc, Rd, Re, Rf, Rg, Rh, Ri, Rj, reduceIte, reduceCtorEq, Rk]
   simp only [g, go_sem, Ra, Rb, Rc, Rd, Re, Rf, Rg, Rh, Ri, Rj, reduceIte, reduceCtorEq, Rk, Wk_enter]
  ·rintro F2 _ ⟨hv, B2, rfl⟩ hkept2
   simp only [go_sem, Ra, Rb, Rc, Rd, Re, Rf, Rg, Rh, Ri, Rj, reduceIte, reduceCtorEq, Rk, hkept, hi] at hkept2 hv
   rw [List.take_length] at hv
   have e3 : [V.slice (nk (((q.conds.map rcCnd).map encCnd)).isEmpty) ((q.conds.map rcCnd).map encCnd)] = encPiece (rcPiece q) := by simp [encPiece, rcPiece]
   have hxs : ((x.pieces.take k).map fun q => encPiece (rcPiece q)).length ≤ 1000000000 := by simp; omega
   rw [take_snoc' hq, List.map_append]
   revert hxs
   generalize ((x.pieces.take k).map fun q => encPiece (rcPiece q)) = xs
   intro hxs
   cases xs with
   | nil => simp only [go_sem, Ra, Rb, Rc, Rd, Re, Rf, Rg, Rh, Ri, Rj, reduceIte, reduceCtorEq, Rk, hkept2, hv, e3, Wk_enter]
   | cons c xs => simp only [go_sem, Ra, Rb, Rc, Rd, Re, Rf, Rg, Rh, Ri, Rj, reduceIte, reduceCtorEq, Rk, hkept2, hv, e3, Wk_enter, app1 (len_Piece _) hxs]
 ·rintro F _ ⟨B, rfl⟩ hkept
  simp only [go_sem, Ra, Rb, Rc, Rd, Re, Rf, Rg, Rh, Ri, Rj, reduceIte, reduceCtorEq, Rk] at hkept
  rw [List.take_length]
  generalize hg : grown 152 (x.pieces.map fun a => encPiece (rcPiece a)) = w
  have f : cutV [.int .i64 x.dim, w] 0 2 true = some (.agg (encPSet (rcPSet x))) := by
   have hw : strip w = .slice (nk x.pieces.isEmpty) (x.pieces.map fun a => encPiece (rcPiece a)) := by rw [← hg, strip_grown, List.isEmpty_map]
   simp [cutV, cutL, ofCells, hw, encPSet, rcPSet, strip_int, Function.comp_def]
  simp only [go_sem, Ra, Rb, Rc, Rd, Re, Rf, Rg, Rh, Ri, Rj, reduceIte, reduceCtorEq, Rk, hkept, f]
mutual
def rcExp : Exp → Exp
 | ⟨op, k, l, r, _, args⟩ => ⟨op, k, rcLin l, ⟨r.a, r.subs.isEmpty, r.subs.map rcLin⟩, args.isEmpty, rcExps args⟩
def rcExps : List Exp → List Exp
 | [] => []
 | x :: xs => rcExp x :: rcExps xs
end
theorem rcExps_map : ∀ l, rcExps l = l.map rcExp
 | [] => rfl
 | x :: xs => by simp only [rcExps, rcExps_map xs, List.map_cons]
theorem enc_rcExp (x : Exp) : encExp (rcExp x) = [.int .i64 x.op, .int .i64 x.k, .slice .shut (x.l.c.map encI), .int .i64 x.l.k, .int .i64 x.r.a, .slice (nk x.r.subs.isEmpty) ((x.r.subs.map rcLin).map encLin), .slice (nk x.args.isEmpty) (x.args.map fun a => encExp (rcExp a))] := by
 cases x
 simp only [rcExp, encExp, encLin, encRef, rcLin, rcExps_map, encExps_map, List.map_map, Function.comp_def, List.cons_append, List.nil_append]
 rfl
theorem cells_Exp' (x : Exp) : encExp x = [.int .i64 x.op, .int .i64 x.k, .slice (nk x.l.n) (x.l.c.map encI), .int .i64 x.l.k, .int .i64 x.r.a, .slice (nk x.r.n) (x.r.subs.map encLin), .slice (nk x.n) (x.args.map encExp)] := by
 cases x
 simp only [encExp, encLin, encRef, encExps_map, List.cons_append, List.nil_append]
theorem rcexp_ok : ∀ x, OkExp x → wtL (encExp x) ≤ 1000000000 → Sp theEnv 110 [.agg (encExp x)] (.agg (encExp (rcExp x))) := by
 refine Exp.ind fun x ih hx hs => ?_
 rw [rwl_Exp] at hs
 have hargs := rwtR_len (enc := encExp) (fun x => by rw [rwl_Exp]; omega) x.args
 have hl := rclin1_ok (y := x.l) (rsm_lin (M := 1000000000) (by omega))
 have hr := rclins_ok (b := x.r.n) (l := x.r.subs) (by
  have := rwtR_len (enc := encLin) (fun x => by rw [rwt_Lin]; omega) x.r.subs
  rw [rwt_Ref] at hs; omega) (fun y hy => rsm_lin (M := 1000000000) (by
  have := rwt_part (enc := encLin) hy
  rw [rwt_Ref] at hs; omega))
 have e1 : encLin (rcLin x.l) = [.slice .shut (x.l.c.map encI), .int .i64 x.l.k] := rfl
 have e0 : encLin x.l = [.slice (nk x.l.n) (x.l.c.map encI), .int .i64 x.l.k] := rfl
 rw [e0] at hl
 rw [cells_Exp' x]
 refine Sp.fn rfl rfl rfl (by simp only [go_sem, Ra, Rb, Rc, Rd, Re, Rf, Rg, Rh, Ri, Rj, reduceIte, reduceCtorEq, Rk]) (by simp only [go_sem, Ra, Rb, Rc, Rd, Re, Rf, Rg, Rh, Ri, Rj, reduceIte, reduceCtorEq, Rk, implies_true]) fun S => ?_
 simp only [a110, c110, go_sem, Ra, Rb, Rc, Rd, Re, Rf, Rg, Rh, Ri, Rj, reduceIte, reduceCtorEq, Rk, rcutV_g, rcutV_0, raggC_some, hl.call, i0_lin (len_Lin _), hr.call]
 simp only [e1, go_sem, Ra, Rb, Rc, Rd, Re, Rf, Rg, Rh, Ri, Rj, reduceIte, reduceCtorEq, Rk, setAt_at0, rcutV_g, rcutV_0, raggC_some, hr.call]
 refine Run_range x.args.length [1, 2, 20] [3] (fun k vs S' => vs = [grown 51 ((x.args.take k).map fun a => encExp (rcExp a))] ∧ ∃ B, S' = ⟨[.int .i64 x.op, .int .i64 x.k, .slice .shut (x.l.c.map encI), .int .i64 x.l.k, .int .i64 x.r.a, grown 48 ((x.r.subs.map rcLin).map encLin), .slice (nk x.n) (x.args.map encExp)] :: [.int .i64 0, .int .i64 0, .slice .nil [], .int .i64 0, .int .i64 0, .slice .nil [], .slice .nil []] :: B, none⟩ :: S) hx.n' (by simp only [go_sem, Ra, Rb, Rc, Rd, Re, Rf, Rg, Rh, Ri, Rj, reduceIte, reduceCtorEq, Rk]) (by simp only [go_sem, Ra, Rb, Rc, Rd, Re, Rf, Rg, Rh, Ri, Rj, reduceIte, reduceCtorEq, Rk]) rfl rfl rfl rfl (by simp only [go_sem, Ra, Rb, Rc, Rd, Re, Rf, Rg, Rh, Ri, Rj, reduceIte, reduceCtorEq, Rk]) ⟨by simp only [go_sem, Ra, Rb, Rc, Rd, Re, Rf, Rg, Rh, Ri, Rj, reduceIte, reduceCtorEq, Rk, List.take_zero, List.map_nil], _, rfl⟩ ?_ ?_
 ·rintro k F _ hk ⟨hv, B, rfl⟩ hi hkept
  simp only [go_sem, Ra, Rb, Rc, Rd, Re, Rf, Rg, Rh, Ri, Rj, reduceIte, reduceCtorEq, Rk] at hkept hv
  obtain ⟨y, hy⟩ : ∃ y, x.args[k]? = some y := ⟨x.args[k], List.getElem?_eq_getElem hk⟩
  have hm := List.mem_of_getElem? hy
  have hsy := rwt_part (enc := encExp) hm
  have hc := ih y hm (hx.s' y hm) (by omega)
  have g := app_gr (enc := fun a => encExp (rcExp a)) (e := 51) (n := 7) (b := 104) (k := .own 51) (l := x.args.take k) (x := y) (len_Exp _) (by simp; omega) (by decide)
  rw [take_snoc' hy]
  simp only [go_sem, Ra, Rb, Rc, Rd, Re, Rf, Rg, Rh, Ri, Rj, reduceIte, reduceCtorEq, Rk, hkept, hi, hv, iaO_map hy, hc.call, g]
 ·rintro F _ ⟨hv, B, rfl⟩ hkept
  simp only [go_sem, Ra, Rb, Rc, Rd, Re, Rf, Rg, Rh, Ri, Rj, reduceIte, reduceCtorEq, Rk] at hkept hv
  rw [List.take_length] at hv
  rw [enc_rcExp x]
  simp only [go_sem, Ra, Rb, Rc, Rd, Re, Rf, Rg, Rh, Ri, Rj, reduceIte, reduceCtorEq, Rk, hkept, hv, setAt_at0, rcutV_g, rcutV_0, raggC_some, List.isEmpty_map]
end Wp
end AM
end Go.Proofs.YtimfbnojmdnlnaaGreat
end
section
namespace Go.Proofs.YtimfbnojmdnlnaaGreat
open Nat renaming reduceEqDiff → Ra, reduceAdd → Rb, reduceLeDiff → Rc, reduceMul → Rd, reduceSub → Re, reduceLT → Rk
open Int renaming reduceLT → Rf, reduceLE → Rg, reduceEq → Rh, reduceAdd → Ri, reduceNeg → Rj
namespace AM
namespace Wp
mutual
def rcStm : Stm → Stm
 | ⟨kind, name, low, high, step, mark, test, target, value, bn, body, en, els⟩ => ⟨kind, name, rcBound low, rcBound high, step, mark, rcPSet test, ⟨target.a, target.subs.isEmpty, target.subs.map rcLin⟩, rcExp value, body.isEmpty, rcStms body, els.isEmpty, rcStms els⟩
def rcStms : List Stm → List Stm
 | [] => []
 | x :: xs => rcStm x :: rcStms xs
end
theorem rcStms_map : ∀ l, rcStms l = l.map rcStm
 | [] => rfl
 | x :: xs => by simp only [rcStms, rcStms_map xs, List.map_cons]
def rcellsStm (x : Stm) : List V := [.int .i64 x.kind, .str x.name, .slice (nk x.low.n) (x.low.parts.map encPart), .slice (nk x.high.n) (x.high.parts.map encPart), .int .i64 x.step, .int .i64 x.mark, .int .i64 x.test.dim, .slice (nk x.test.n) (x.test.pieces.map encPiece),
 .int .i64 x.target.a, .slice (nk x.target.n) (x.target.subs.map encLin), .int .i64 x.value.op, .int .i64 x.value.k, .slice (nk x.value.l.n) (x.value.l.c.map encI), .int .i64 x.value.l.k, .int .i64 x.value.r.a, .slice (nk x.value.r.n) (x.value.r.subs.map encLin), .slice (nk x.value.n) (x.value.args.map encExp),
 .slice (nk x.bn) (x.body.map encStm), .slice (nk x.en) (x.els.map encStm)]
theorem renc_cells (x : Stm) : encStm x = rcellsStm x := by
 cases x with
 | mk kind name low high step mark test target value bn body en els =>
  cases value
  simp only [encStm, rcellsStm, encBound, encPSet, encRef, encExp, encLin, encStms_map, encExps_map, List.cons_append, List.nil_append]
theorem rwl_Stm (x : Stm) : wtL (encStm x) = 4 + wtL (encBound x.low) + wtL (encBound x.high) + wtL (encPSet x.test) + wtL (encRef x.target) + wtL (encExp x.value) + (1 + wtR (x.body.map encStm)) + (1 + wtR (x.els.map encStm)) := by
 cases x
 simp only [encStm, wtL_append, wtL, wt, encStms_map]; omega
theorem enc_rcStm (x : Stm) : encStm (rcStm x) = [.int .i64 x.kind, .str x.name, .slice (nk x.low.parts.isEmpty) ((rcBound x.low).parts.map encPart), .slice (nk x.high.parts.isEmpty) ((rcBound x.high).parts.map encPart), .int .i64 x.step, .int .i64 x.mark, .int .i64 x.test.dim, .slice (nk x.test.pieces.isEmpty) ((rcPSet x.test).pieces.map encPiece),
  .int .i64 x.target.a, .slice (nk x.target.subs.isEmpty) ((x.target.subs.map rcLin).map encLin), .int .i64 x.value.op, .int .i64 x.value.k, .slice .shut (x.value.l.c.map encI), .int .i64 x.value.l.k, .int .i64 x.value.r.a, .slice (nk x.value.r.subs.isEmpty) ((x.value.r.subs.map rcLin).map encLin), .slice (nk x.value.args.isEmpty) (x.value.args.map fun a => encExp (rcExp a)),
  .slice (nk x.body.isEmpty) ((x.body.map rcStm).map encStm), .slice (nk x.els.isEmpty) ((x.els.map rcStm).map encStm)] := by
 rw [renc_cells]
 cases x with
 | mk kind name low high step mark test target value bn body en els =>
  cases value
  simp only [rcStm, rcellsStm, rcBound, rcPSet, rcExp, rcLin, rcStms_map, rcExps_map, List.map_map, Function.comp_def]
  rfl
def AllSp (l : List Stm) : Prop := ∀ b, Sp theEnv 73 [.slice (nk b) (l.map encStm)] (grown 53 ((l.map rcStm).map encStm))
theorem rcall_list {l : List Stm} (hl : l.length ≤ 1000000000) (hok : ∀ s ∈ l, OkStm s) (hs : ∀ s ∈ l, wtL (encStm s) ≤ 1000000000) (hb : ∀ s ∈ l, AllSp s.body ∧ AllSp s.els) : AllSp l := by
 intro b
 refine Sp.fn rfl rfl rfl (by simp only [go_sem, Ra, Rb, Rc, Rd, Re, Rf, Rg, Rh, Ri, Rj, reduceIte, reduceCtorEq, Rk]) (by simp only [go_sem, Ra, Rb, Rc, Rd, Re, Rf, Rg, Rh, Ri, Rj, reduceIte, reduceCtorEq, Rk, implies_true]) fun S => ?_; simp only [a73, c73, go_sem, Ra, Rb, Rc, Rd, Re, Rf, Rg, Rh, Ri, Rj, reduceIte, reduceCtorEq, Rk]
 refine Run_range l.length [6] [3] (fun k vs S' => vs = [grown 53 (((l.take k).map rcStm).map encStm)] ∧ ∃ B, S' = ⟨B, none⟩ :: S) (Nat.le_trans hl (by decide)) (by simp only [go_sem, Ra, Rb, Rc, Rd, Re, Rf, Rg, Rh, Ri, Rj, reduceIte, reduceCtorEq, Rk]) (by simp only [go_sem, Ra, Rb, Rc, Rd, Re, Rf, Rg, Rh, Ri, Rj, reduceIte, reduceCtorEq, Rk]) rfl rfl rfl rfl (by simp only [go_sem, Ra, Rb, Rc, Rd, Re, Rf, Rg, Rh, Ri, Rj, reduceIte, reduceCtorEq, Rk]) ⟨by simp only [go_sem, Ra, Rb, Rc, Rd, Re, Rf, Rg, Rh, Ri, Rj, reduceIte, reduceCtorEq, Rk, List.take_zero, List.map_nil, grown_nil], _, rfl⟩ ?_ ?_
 ·rintro k F _ hk ⟨hv, B, rfl⟩ hi hkept
  simp only [go_sem, Ra, Rb, Rc, Rd, Re, Rf, Rg, Rh, Ri, Rj, reduceIte, reduceCtorEq, Rk] at hkept hv
  obtain ⟨x, hx⟩ : ∃ y, l[k]? = some y := ⟨l[k], List.getElem?_eq_getElem hk⟩
  have hm := List.mem_of_getElem? hx
  have hxo := hok x hm
  have hxs := hs x hm
  rw [rwl_Stm] at hxs
  obtain ⟨hbb, hbe⟩ := hb x hm
  have hlow : Sp theEnv 108 [.agg [.slice (nk x.low.n) (x.low.parts.map encPart)]] (.agg [.slice (nk x.low.parts.isEmpty) ((rcBound x.low).parts.map encPart)]) := rcbound_ok hxo.low' (by omega)
  have hhigh : Sp theEnv 108 [.agg [.slice (nk x.high.n) (x.high.parts.map encPart)]] (.agg [.slice (nk x.high.parts.isEmpty) ((rcBound x.high).parts.map encPart)]) := rcbound_ok hxo.high' (by omega)
  have htest : Sp theEnv 109 [.agg [.int .i64 x.test.dim, .slice (nk x.test.n) (x.test.pieces.map encPiece)]] (.agg [.int .i64 x.test.dim, .slice (nk x.test.pieces.isEmpty) ((rcPSet x.test).pieces.map encPiece)]) := rcset_ok hxo.test' (by omega)
  have htgt := rclins_ok (b := x.target.n) (l := x.target.subs) (by
   have := rwtR_len (enc := encLin) (fun x => by rw [rwt_Lin]; omega) x.target.subs
   rw [rwt_Ref] at hxs; omega) (fun y hy => rsm_lin (M := 1000000000) (by
   have := rwt_part (enc := encLin) hy
   rw [rwt_Ref] at hxs; omega))
  have hval := rcexp_ok x.value hxo.value' (by omega)
  rw [cells_Exp' x.value, enc_rcExp x.value] at hval
  have g := app_gr (enc := fun s => encStm (rcStm s)) (e := 53) (n := 19) (b := 304) (k := .own 53) (l := l.take k) (x := x) (len_Stm _) (by simp; omega) (by decide)
  have hmm : ∀ l : List Stm, (l.map rcStm).map encStm = l.map fun s => encStm (rcStm s) := fun l => by rw [List.map_map]; rfl
  rw [hmm] at hv ⊢
  rw [take_snoc' hx]
  have e0 := renc_cells x
  unfold rcellsStm at e0
  have g' := g
  rw [enc_rcStm x] at g'
  have hia : ∀ (K : SK) (kk : IntKind), iaO 19 (.slice K (l.map encStm)) (.int kk (k : Int)) = some (.look [.int .i64 x.kind, .str x.name, .slice (nk x.low.n) (x.low.parts.map encPart), .slice (nk x.high.n) (x.high.parts.map encPart), .int .i64 x.step, .int .i64 x.mark, .int .i64 x.test.dim, .slice (nk x.test.n) (x.test.pieces.map encPiece),  .int .i64 x.target.a, .slice (nk x.target.n) (x.target.subs.map encLin), .int .i64 x.value.op, .int .i64 x.value.k, .slice (nk x.value.l.n) (x.value.l.c.map encI), .int .i64 x.value.l.k, .int .i64 x.value.r.a, .slice (nk x.value.r.n) (x.value.r.subs.map encLin), .slice (nk x.value.n) (x.value.args.map encExp),  .slice (nk x.bn) (x.body.map encStm), .slice (nk x.en) (x.els.map encStm)]) := fun K kk => by rw [iaO_map hx, if_pos (len_Stm x), e0]
  simp only [go_sem, Ra, Rb, Rc, Rd, Re, Rf, Rg, Rh, Ri, Rj, reduceIte, reduceCtorEq, Rk, hkept, hi, hv, hia, rcutV_g, rcutV_0, raggC_some, hlow.call, hhigh.call, htest.call, htgt.call, hval.call, (hbb _).call, (hbe _).call, setAt_at0, Wk_enter]
  simp only [List.isEmpty_map]
  rw [g']
  simp only [go_sem, Ra, Rb, Rc, Rd, Re, Rf, Rg, Rh, Ri, Rj, reduceIte, reduceCtorEq, Rk]
 ·rintro F _ ⟨hv, B, rfl⟩ hkept
  simp only [go_sem, Ra, Rb, Rc, Rd, Re, Rf, Rg, Rh, Ri, Rj, reduceIte, reduceCtorEq, Rk] at hkept hv
  rw [List.take_length] at hv
  simp only [go_sem, Ra, Rb, Rc, Rd, Re, Rf, Rg, Rh, Ri, Rj, reduceIte, reduceCtorEq, Rk, hkept, hv]
theorem rcall_stm : ∀ s, OkStm s → wtL (encStm s) ≤ 1000000000 → AllSp s.body ∧ AllSp s.els := by
 refine Stm.ind fun x ihb ihe hx hs => ?_
 rw [rwl_Stm] at hs
 have hbn := rwtR_len (enc := encStm) (fun x => by rw [rwl_Stm]; omega) x.body
 have hen := rwtR_len (enc := encStm) (fun x => by rw [rwl_Stm]; omega) x.els
 have wb : ∀ y ∈ x.body, wtL (encStm y) ≤ 1000000000 := fun y hy => by have := rwt_part (enc := encStm) hy; omega
 have we : ∀ y ∈ x.els, wtL (encStm y) ≤ 1000000000 := fun y hy => by have := rwt_part (enc := encStm) hy; omega
 exact ⟨rcall_list (by omega) hx.body' wb fun y hy => ihb y hy (hx.body' y hy) (wb y hy), rcall_list (by omega) hx.els' we fun y hy => ihe y hy (hx.els' y hy) (we y hy)⟩
end Wp
end AM
end Go.Proofs.YtimfbnojmdnlnaaGreat
end
