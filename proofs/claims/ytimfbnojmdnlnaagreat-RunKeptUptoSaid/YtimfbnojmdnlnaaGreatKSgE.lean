/- The law RunKept, on trees. -/
import Derived.Test.YtimfbnojmdnlnaaGreatKSgD
import Derived.Test.YtimfbnojmdnlnaaGreatKM47
import Derived.Test.YtimfbnojmdnlnaaGreatKSeL
import Derived.Test.YtimfbnojmdnlnaaGreatKSbR
import Derived.Test.YtimfbnojmdnlnaaGreatKScD
set_option linter.unusedVariables false
set_option linter.unusedSimpArgs false
set_option maxRecDepth 100000
namespace Go.Proofs.YtimfbnojmdnlnaaGreat
open Nat renaming reduceEqDiff → Ra, reduceAdd → Rb, reduceLeDiff → Rc, reduceMul → Rd, reduceSub → Re, reduceLT → Rk
open Int renaming reduceLT → Rf, reduceLE → Rg, reduceEq → Rh, reduceAdd → Ri, reduceNeg → Rj
namespace AM
namespace Wp
theorem fv_in (s : Int) (a k : Nat) : outI (freshV s a k) = false := by
 have h1 : ∀ x : Int, -2000 ≤ x.tmod 2001 ∧ x.tmod 2001 ≤ 2000 := fun x => by
  have := Int.tmod_lt_of_pos x (show (0 : Int) < 2001 by decide)
  have := Int.lt_tmod_of_pos x (show (0 : Int) < 2001 by decide)
  omega
 have h := h1 ((wi (wi (s + wi (7919 * (a : Int))) + wi (104729 * (k : Int)))))
 have h2 : wi ((wi (wi (s + wi (7919 * (a : Int))) + wi (104729 * (k : Int)))).tmod 2001 - 1000) = (wi (wi (s + wi (7919 * (a : Int))) + wi (104729 * (k : Int)))).tmod 2001 - 1000 := wrap64 (by omega) (by omega)
 unfold outI freshV
 rw [h2]
 simp only [Bool.or_eq_false_iff, decide_eq_false_iff_not]
 omega
theorem fitFrom {s : Int} : ∀ {sh : List Shape} {a : Nat}, (∀ x ∈ sh, 0 ≤ x.cells) → (((freshFrom s a (sh.map (·.cells))).map fun r => (⟨false, r⟩ : Mem)).zip sh).all fitP = true
 | [], _, _ => by simp [freshFrom]
 | x :: sh, a, h => by
  have hx := h x (by simp)
  simp only [List.map_cons, freshFrom, List.zip_cons_cons, List.all_cons, Bool.and_eq_true]
  refine ⟨?_, fitFrom fun y hy => h y (List.mem_cons_of_mem _ hy)⟩
  have e1 : idxF outI 0 (freshRow s a x.cells.toNat) = -1 := idxF_none fun b hb => by
   simp only [freshRow, List.mem_map] at hb
   obtain ⟨k, _, rfl⟩ := hb
   exact fv_in s a k
  simp only [fitP, e1]
  simp [freshRow, hx]
  omega
theorem fresh_fits {p : Prg} {ps : List Int} (he : askErr p ps = 0) (s : Int) : fitV ((freshFrom s 0 (cellsL p ps)).map fun r => (⟨false, r⟩ : Mem)) (shapesOf ps p.arrays) = true := by
 obtain ⟨hc, hl, hin, hsh, _⟩ := ask_in he
 have hag := cells_agree hc hsh
 have h0 : ∀ x ∈ shapesOf ps p.arrays, 0 ≤ x.cells := fun x hx => by
  have : x.cells ∈ (shapesOf ps p.arrays).map (·.cells) := List.mem_map_of_mem hx
  rw [hag.1] at this
  exact (hag.2 _ this).1
 simp only [fitV, Bool.and_eq_true, decide_eq_true_eq]
 exact ⟨by simp [freshFrom_len, cellsL], fitFrom h0⟩
theorem sameM {p : Prg} {ps : List Int} (s : Int) : Sp theEnv 30 [memV (decide (askErr p ps = 0)) (freshFrom s 0 (cellsL p ps)), memV (decide (askErr p ps = 0)) (freshFrom s 0 (cellsL p ps))] (.bool true) := by
 by_cases he : askErr p ps = 0
 ·have hsm := fresh_mem he s
  simp only [he, decide_true]
  rw [memV_eq]
  have key := samemem_ok (b1 := false) (b2 := false) (a := (freshFrom s 0 (cellsL p ps)).map fun r => (⟨false, r⟩ : Mem)) (b := (freshFrom s 0 (cellsL p ps)).map fun r => (⟨false, r⟩ : Mem)) (by simp; omega) (by
   intro x hx
   simp only [List.mem_map] at hx
   obtain ⟨r, hr, rfl⟩ := hx
   exact Nat.le_trans (hsm.2 r hr) (by decide))
  rw [memEq_rows rfl] at key
  exact key
 ·simp only [he, decide_false]
  exact samemem_ok (b1 := true) (b2 := true) (a := []) (b := []) (by simp) (by simp)
theorem keptlaw_ok {p : Prg} (hp : OkPrg p) (hw : wtL (encPrg p) ≤ 400000000) (b : Bool) (ps : List Int) (hz : b = true → ps = []) (hpl : ps.length ≤ LIM) (s : Int) :
  Sp theEnv 10 [.agg (encPrg p), .slice (nk b) (ps.map encI), .int .i64 s] (.bool true) := by
 have hF := fresh_ok hp (b := b) hpl s
 have hS := sameM (p := p) (ps := ps) (modI s 1000003)
 refine Sp.fn rfl rfl rfl (by simp only [go_sem, Ra, Rb, Rc, Rd, Re, Rf, Rg, Rh, Ri, Rj, reduceIte, reduceCtorEq, Rk]) (by simp only [go_sem, Ra, Rb, Rc, Rd, Re, Rf, Rg, Rh, Ri, Rj, reduceIte, reduceCtorEq, Rk, implies_true]) fun S => ?_; simp only [a10, c10, go_sem, Ra, Rb, Rc, Rd, Re, Rf, Rg, Rh, Ri, Rj, reduceIte, reduceCtorEq, Rk]
 rw [(few12_nil hp b ps hpl).call]
 simp only [go_sem, Ra, Rb, Rc, Rd, Re, Rf, Rg, Rh, Ri, Rj, reduceIte, reduceCtorEq, Rk]
 rw [Run_if]
 simp only [go_sem, Ra, Rb, Rc, Rd, Re, Rf, Rg, Rh, Ri, Rj, reduceIte, reduceCtorEq, Rk]
 split
 ·rw [awake12_c]; simp only [go_sem, Ra, Rb, Rc, Rd, Re, Rf, Rg, Rh, Ri, Rj, reduceIte, reduceCtorEq, Rk]
 ·simp only [hF.call, go_sem, Ra, Rb, Rc, Rd, Re, Rf, Rg, Rh, Ri, Rj, reduceIte, reduceCtorEq, Rk, hS.callG, hS.call]
  rw [Run_if]
  simp only [go_sem, Ra, Rb, Rc, Rd, Re, Rf, Rg, Rh, Ri, Rj, reduceIte, reduceCtorEq, Rk]
  by_cases he : askErr p ps = 0
  ·simp only [he, decide_true, go_sem, Ra, Rb, Rc, Rd, Re, Rf, Rg, Rh, Ri, Rj, reduceIte, reduceCtorEq, Rk]
   obtain ⟨hc, hl, hin, hsh, _⟩ := ask_in he
   have hl2 : ps.length ≤ 1000 := by have := (chk_head hc).1; omega
   have hsm := fresh_mem he (modI s 1000003)
   have hfit := fresh_fits he (modI s 1000003)
   have a1 := app_cp (e := 3) (n := 1) (b := 8) (k := nk b) (ys := ps.map encI) (lens_I _) (by simp; omega) (by decide)
   obtain ⟨v, hv, hR⟩ := run_ok hp (b := b) (bm := false) (mem := (freshFrom (modI s 1000003) 0 (cellsL p ps)).map fun r => (⟨false, r⟩ : Mem)) hz hpl ⟨by simp; omega, fun m hm => by
    simp only [List.mem_map] at hm
    obtain ⟨r, hr, rfl⟩ := hm
    exact ⟨Nat.le_trans (hsm.2 r hr) (by decide), fun h => by cases h⟩⟩ (fun st rows => err_body _ _ _ _ _)
   rw [← memV_eq] at hv
   simp only [he, decide_true] at hS
   have hR2 : ∃ v1 v2 g, v = .tup [v1, v2, .int .i64 g] ∧ g ≠ 1 ∧ (∀ n, low n v = true) ∧ strip v1 = v1 ∧ cp v1 = some v1 ∧ tame v1 = true ∧ strip v2 = v2 ∧ cp v2 = some v2 ∧ tame v2 = true := by
    unfold RunV at hR
    rw [if_pos he, if_pos hfit] at hR
    have h3 := err_body (shapesOf ps p.arrays) p.body ps 0 (((freshFrom (modI s 1000003) 0 (cellsL p ps)).map fun r => (⟨false, r⟩ : Mem)).map (·.row))
    split at hR
    ·obtain ⟨bq, ms, _, rfl⟩ := hR
     exact ⟨_, _, _, rfl, by decide, fun n => by simp only [go_sem, Ra, Rb, Rc, Rd, Re, Rf, Rg, Rh, Ri, Rj, reduceIte, reduceCtorEq, Rk], strip_nk, by simp only [go_sem, Ra, Rb, Rc, Rd, Re, Rf, Rg, Rh, Ri, Rj, reduceIte, reduceCtorEq, Rk], by simp only [go_sem, Ra, Rb, Rc, Rd, Re, Rf, Rg, Rh, Ri, Rj, reduceIte, reduceCtorEq, Rk], rfl, rfl, rfl⟩
    ·rename_i e hb
     rw [hb] at h3
     subst hR
     refine ⟨_, _, _, rfl, ?_, fun n => rfl, rfl, rfl, rfl, rfl, rfl, rfl⟩
     rcases h3 with rfl | rfl <;> decide
   obtain ⟨v1, v2, g, rfl, hg, hlow, hs1, hc1, ht1, hs2, hc2, ht2⟩ := hR2
   have hcopy := rcopy_ok hp (by omega)
   have hsame := ref_same (q := rcPrg p) hp
   rw [rlike_Prg] at hsame
   have hord := order_ok (b1 := false) (b2 := b) (a := ps) (b := ps) (by omega) (Nat.le_refl _)
   rw [ordI_same, show nk false = SK.shut from rfl] at hord
   simp only [a1, hcopy.call, go_sem, Ra, Rb, Rc, Rd, Re, Rf, Rg, Rh, Ri, Rj, reduceIte, reduceCtorEq, Rk, evc12_call hv (by simp only [go_sem, Ra, Rb, Rc, Rd, Re, Rf, Rg, Rh, Ri, Rj, reduceIte, reduceCtorEq, Rk]) hlow, hs1, hc1, ht1, hs2, hc2, ht2, hg, hsame.callG, hS.callG, hord.call, hord.callG, awake12_g, awake12_c]
  ·simp only [he, go_sem, Ra, Rb, Rc, Rd, Re, Rf, Rg, Rh, Ri, Rj, reduceIte, reduceCtorEq, Rk]
   rw [awake12_c]; simp only [go_sem, Ra, Rb, Rc, Rd, Re, Rf, Rg, Rh, Ri, Rj, reduceIte, reduceCtorEq, Rk]
end Wp
end AM
end Go.Proofs.YtimfbnojmdnlnaaGreat
