/- The reference's Copy; a copy is like what it is made of. -/
import Derived.Test.YtimfbnojmdnlnaaGreatKM30
import Derived.Test.YtimfbnojmdnlnaaGreatKM31
set_option linter.unusedVariables false
set_option linter.unusedSimpArgs false
set_option maxRecDepth 100000
namespace Go.Proofs.YtimfbnojmdnlnaaGreat
open Nat renaming reduceEqDiff → Ra, reduceAdd → Rb, reduceLeDiff → Rc, reduceMul → Rd, reduceSub → Re, reduceLT → Rk
open Int renaming reduceLT → Rf, reduceLE → Rg, reduceEq → Rh, reduceAdd → Ri, reduceNeg → Rj
namespace AM
namespace Wp
def rcArr (a : Arr) : Arr := ⟨a.name, a.sizes.isEmpty, a.sizes.map rcLin⟩
def rcPrg (p : Prg) : Prg := ⟨false, p.params, p.arrays.isEmpty, p.arrays.map rcArr, p.body.isEmpty, p.body.map rcStm⟩
theorem rwl_Arr (x : Arr) : wtL (encArr x) = 2 + wtR (x.sizes.map encLin) := by simp only [encArr, wtL, wt]; omega
theorem rwl_Prg (x : Prg) : wtL (encPrg x) = 3 + wtR (x.params.map encS) + wtR (x.arrays.map encArr) + wtR (x.body.map encStm) := by simp only [encPrg, encStms_map, wtL, wt]; omega
theorem rcopy_ok {p : Prg} (hp : OkPrg p) (hw : wtL (encPrg p) ≤ 1000000000) : Sp theEnv 41 [.agg (encPrg p)] (.agg (encPrg (rcPrg p))) := by
 rw [rwl_Prg] at hw
 have hpn := rwtR_len (enc := encS) (fun x => by simp [encS, wtL, wt]) p.params
 have han := rwtR_len (enc := encArr) (fun x => by rw [rwl_Arr]; omega) p.arrays
 have hbn := rwtR_len (enc := encStm) (fun x => by rw [rwl_Stm]; omega) p.body
 have hbody := rcall_list (l := p.body) (by omega) hp.bs (fun y hy => by have := rwt_part (enc := encStm) hy; omega) (fun y hy => rcall_stm y (hp.bs y hy) (by have := rwt_part (enc := encStm) hy; omega)) p.bn
 have a1 := app_cp (e := 9) (n := 1) (b := 16) (k := nk p.pn) (ys := p.params.map encS) (by simp [allLen, encS]) (by simp; omega) (by decide)
 have e0 : encPrg p = [.slice (nk p.pn) (p.params.map encS), .slice (nk p.an) (p.arrays.map encArr), .slice (nk p.bn) (p.body.map encStm)] := by simp only [encPrg, encStms_map]
 rw [e0]
 refine Sp.fn rfl rfl rfl (by simp only [go_sem, Ra, Rb, Rc, Rd, Re, Rf, Rg, Rh, Ri, Rj, reduceIte, reduceCtorEq, Rk]) (by simp only [go_sem, Ra, Rb, Rc, Rd, Re, Rf, Rg, Rh, Ri, Rj, reduceIte, reduceCtorEq, Rk, implies_true]) fun S => ?_
 simp only [a41, c41, go_sem, Ra, Rb, Rc, Rd, Re, Rf, Rg, Rh, Ri, Rj, reduceIte, reduceCtorEq, Rk, a1, hbody.call, Wk_enter]
 simp only [List.isEmpty_map]
 refine Run_range p.arrays.length [2, 3, 15] [] (fun k _ S' => ∃ B, S' = ⟨[.slice (nk p.pn) (p.params.map encS), .slice (nk p.an) (p.arrays.map encArr), .slice (nk p.bn) (p.body.map encStm)] :: [.slice .nil [], .slice .nil [], .slice .nil []] :: [.slice .shut (p.params.map encS), grown 102 ((p.arrays.take k).map fun a => encArr (rcArr a)), .slice (nk p.body.isEmpty) ((p.body.map rcStm).map encStm)] :: B, none⟩ :: S) (Nat.le_trans (show p.arrays.length ≤ 1000000000 by omega) (by decide)) (by simp only [go_sem, Ra, Rb, Rc, Rd, Re, Rf, Rg, Rh, Ri, Rj, reduceIte, reduceCtorEq, Rk]) (by simp only [go_sem, Ra, Rb, Rc, Rd, Re, Rf, Rg, Rh, Ri, Rj, reduceIte, reduceCtorEq, Rk]) rfl rfl rfl rfl (by simp only [go_sem, Ra, Rb, Rc, Rd, Re, Rf, Rg, Rh, Ri, Rj, reduceIte, reduceCtorEq, Rk]) ⟨_, rfl⟩ ?_ ?_
 ·rintro k F _ hk ⟨B, rfl⟩ hi hkept
  simp only [go_sem, Ra, Rb, Rc, Rd, Re, Rf, Rg, Rh, Ri, Rj, reduceIte, reduceCtorEq, Rk] at hkept
  obtain ⟨x, hx⟩ : ∃ y, p.arrays[k]? = some y := ⟨p.arrays[k], List.getElem?_eq_getElem hk⟩
  have hm := List.mem_of_getElem? hx
  have hxs := rwt_part (enc := encArr) hm
  rw [rwl_Arr] at hxs
  have hsz := rclins_ok (b := x.n) (l := x.sizes) (by
   have := rwtR_len (enc := encLin) (fun x => by rw [rwt_Lin]; omega) x.sizes
   omega) (fun y hy => rsm_lin (M := 1000000000) (by
   have := rwt_part (enc := encLin) hy
   omega))
  have e1 : encArr x = [.str x.name, .slice (nk x.n) (x.sizes.map encLin)] := rfl
  have hia : ∀ (K : SK) (kk : IntKind), iaO 2 (.slice K (p.arrays.map encArr)) (.int kk (k : Int)) = some (.look [.str x.name, .slice (nk x.n) (x.sizes.map encLin)]) := fun K kk => by rw [iaO_map hx, if_pos (len_Arr x), e1]
  have e2 : encArr (rcArr x) = [.str x.name, .slice (nk x.sizes.isEmpty) ((x.sizes.map rcLin).map encLin)] := rfl
  have g := app_gr (enc := fun a => encArr (rcArr a)) (e := 102) (n := 2) (b := 40) (k := .own 102) (l := p.arrays.take k) (x := x) (len_Arr _) (by simp; omega) (by decide)
  rw [take_snoc' hx, List.map_append]
  rw [List.map_append] at g
  have hlen : ((p.arrays.take k).map fun a => encArr (rcArr a)).length ≤ 1000000000 := by simp; omega
  revert g hlen
  generalize ((p.arrays.take k).map fun a => encArr (rcArr a)) = xs
  intro g hlen
  simp only [List.map_cons, List.map_nil, e2] at g ⊢
  cases xs with
  | nil =>
   simp only [grown, List.nil_append] at g
   simp only [go_sem, Ra, Rb, Rc, Rd, Re, Rf, Rg, Rh, Ri, Rj, reduceIte, reduceCtorEq, Rk, hkept, hi, hia, rcutV_g, rcutV_0, raggC_some, hsz.call, Wk_enter, List.isEmpty_map, g]
  | cons c xs =>
   simp only [grown, List.isEmpty_cons, List.cons_append, Bool.false_eq_true, if_false] at g
   simp only [go_sem, Ra, Rb, Rc, Rd, Re, Rf, Rg, Rh, Ri, Rj, reduceIte, reduceCtorEq, Rk, hkept, hi, hia, rcutV_g, rcutV_0, raggC_some, hsz.call, Wk_enter, List.isEmpty_map, g]
 ·rintro F _ ⟨B, rfl⟩ hkept
  simp only [go_sem, Ra, Rb, Rc, Rd, Re, Rf, Rg, Rh, Ri, Rj, reduceIte, reduceCtorEq, Rk] at hkept
  rw [List.take_length]
  generalize hg : grown 102 (p.arrays.map fun a => encArr (rcArr a)) = w
  have f : cutV [.slice .shut (p.params.map encS), w, .slice (nk p.body.isEmpty) ((p.body.map rcStm).map encStm)] 0 3 true = some (.agg (encPrg (rcPrg p))) := by
   have hw : strip w = .slice (nk p.arrays.isEmpty) (p.arrays.map fun a => encArr (rcArr a)) := by rw [← hg, strip_grown, List.isEmpty_map]
   simp [cutV, cutL, ofCells, hw, encPrg, rcPrg, encStms_map, Function.comp_def]
   exact ⟨strip_nk (b := false) (xs := p.params.map encS), strip_nk⟩
  simp only [go_sem, Ra, Rb, Rc, Rd, Re, Rf, Rg, Rh, Ri, Rj, reduceIte, reduceCtorEq, Rk, hkept, f]
theorem rlike_Lin (a : Lin) : eqvL (encLin a) (encLin (rcLin a)) = true := by rw [eqv_Lin]; simp only [rcLin]; rw [refl_R fun x _ => by simp [eqv_I]]; simp
theorem rlike_R {α : Type} {enc : α → List V} {f : α → α} {l : List α} (h : ∀ x ∈ l, eqvL (enc x) (enc (f x)) = true) : eqvR (l.map enc) ((l.map f).map enc) = true := by
 refine eqvR_all (by simp) fun i x y hx hy => ?_
 rw [List.map_map] at hy
 simp only [List.getElem?_map, Option.map_eq_some_iff] at hx hy
 obtain ⟨a, ha, rfl⟩ := hx
 obtain ⟨b, hb, rfl⟩ := hy
 rw [ha] at hb
 cases hb
 exact h a (List.mem_of_getElem? ha)
theorem rlike_Exp : ∀ a : Exp, eqvL (encExp a) (encExp (rcExp a)) = true := Exp.ind fun x ih => by
 cases x
 rw [rcExp, eqv_Exp, eqv_Ref, rcExps_map]
 simp only at ih ⊢
 rw [rlike_R ih, rlike_Lin, rlike_R fun x _ => rlike_Lin x]; simp
theorem rlike_Bound (b : Bound) : eqvL (encBound b) (encBound (rcBound b)) = true := by
 rw [eqv_Bound]; simp only [rcBound]
 exact rlike_R fun x _ => by rw [eqv_Part]; simp only [rcPart]; exact rlike_R fun x _ => by rw [eqv_Rw]; simp only [rcRw]; rw [rlike_Lin]; simp
theorem rlike_PSet (b : PSet) : eqvL (encPSet b) (encPSet (rcPSet b)) = true := by
 rw [eqv_PSet]; simp only [rcPSet]
 rw [rlike_R fun x _ => by rw [eqv_Piece]; simp only [rcPiece]; exact rlike_R fun x _ => by rw [eqv_Cnd]; simp only [rcCnd]; rw [rlike_Lin]; simp]; simp
theorem rlike_Stm : ∀ a : Stm, eqvL (encStm a) (encStm (rcStm a)) = true := Stm.ind fun x ihb ihe => by
 cases x
 rw [rcStm, eqv_Stm, eqv_Ref, rcStms_map, rcStms_map]
 simp only at ihb ihe ⊢
 rw [rlike_R ihb, rlike_R ihe, rlike_Bound, rlike_Bound, rlike_PSet, rlike_R fun x _ => rlike_Lin x, rlike_Exp]; simp
theorem rlike_Prg (p : Prg) : eqvL (encPrg p) (encPrg (rcPrg p)) = true := by
 rw [eqv_Prg]; simp only [rcPrg]
 rw [refl_R fun x _ => by simp [eqv_S], rlike_R fun x _ => by rw [eqv_Arr]; simp only [rcArr]; rw [rlike_R fun x _ => rlike_Lin x]; simp, rlike_R fun x _ => rlike_Stm x]; simp
end Wp
end AM
end Go.Proofs.YtimfbnojmdnlnaaGreat
