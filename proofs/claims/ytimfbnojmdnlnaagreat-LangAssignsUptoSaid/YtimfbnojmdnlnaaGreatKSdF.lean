/- The law LangAssigns, on trees. -/
import Derived.Test.YtimfbnojmdnlnaaGreatKSdE
import Derived.Test.YtimfbnojmdnlnaaGreatKSbR
import Derived.Test.YtimfbnojmdnlnaaGreatKSbMa
import Derived.Test.YtimfbnojmdnlnaaGreatKM22
import Derived.Test.YtimfbnojmdnlnaaGreatKM31
set_option linter.unusedVariables false
set_option linter.unusedSimpArgs false
set_option maxRecDepth 100000
namespace Go.Proofs.YtimfbnojmdnlnaaGreat
namespace AM
namespace Wp
theorem ordI_refl : ∀ a : List Int, ordI a a = 0
 | [] => rfl
 | x :: a => by simp [ordI, ordI_refl a]
theorem list_ok {b1 b2 : Bool} {a : List Int} (hl : a.length ≤ 1000000000) : Sp theEnv 15 [.slice (nk b1) (a.map encI), .slice (nk b2) (a.map encI)] (.bool true) := by
 have h := order_ok (b1 := b1) (b2 := b2) (a := a) (b := a) hl (Nat.le_refl _)
 rw [ordI_refl] at h
 refine Sp.fn rfl rfl rfl (by simp only [go_sem, Nat.reduceEqDiff, Nat.reduceAdd, Nat.reduceLeDiff, Nat.reduceMul, Nat.reduceSub, Int.reduceLT, Int.reduceLE, Int.reduceEq, Int.reduceAdd, Int.reduceNeg, reduceIte, reduceCtorEq, Nat.reduceLT]) (by simp only [go_sem, Nat.reduceEqDiff, Nat.reduceAdd, Nat.reduceLeDiff, Nat.reduceMul, Nat.reduceSub, Int.reduceLT, Int.reduceLE, Int.reduceEq, Int.reduceAdd, Int.reduceNeg, reduceIte, reduceCtorEq, Nat.reduceLT, implies_true]) fun S => ?_; simp only [a15, c15, go_sem, Nat.reduceEqDiff, Nat.reduceAdd, Nat.reduceLeDiff, Nat.reduceMul, Nat.reduceSub, Int.reduceLT, Int.reduceLE, Int.reduceEq, Int.reduceAdd, Int.reduceNeg, reduceIte, reduceCtorEq, Nat.reduceLT]
 simp only [go_sem, Nat.reduceEqDiff, Nat.reduceAdd, Nat.reduceLeDiff, Nat.reduceMul, Nat.reduceSub, Int.reduceLT, Int.reduceLE, Int.reduceEq, Int.reduceAdd, Int.reduceNeg, reduceIte, reduceCtorEq, Nat.reduceLT, h.call]
theorem nk_cp (l : List Info) : nk (l.map cpInfo).isEmpty = nk l.isEmpty := by cases l <;> rfl
theorem f_Info_21 (y : Info) : cutV (encInfo y) 21 1 false = some (.slice (nk y.rd.isEmpty) (y.rd.map encRef)) := by
 have h := len_Stm y.s
 simp only [encInfo, go_sem, Nat.reduceEqDiff, Nat.reduceAdd, Nat.reduceLeDiff, Nat.reduceMul, Nat.reduceSub, Int.reduceLT, Int.reduceLE, Int.reduceEq, Int.reduceAdd, Int.reduceNeg, reduceIte, reduceCtorEq, Nat.reduceLT, cutV, cutL, List.length_append, h, List.length_singleton]
 simp [List.drop_append, h, ofCells]
 exact strip_nk
theorem i0 : inI 0 := ⟨by decide, by decide⟩
theorem ok_zLin : OkLin ⟨true, [], 0⟩ := ⟨by decide, by simp, i0, by simp⟩
theorem ok_zRef : OkRef ⟨0, true, []⟩ := ⟨i0, by decide, by simp, by simp⟩
theorem ok_zS : OkStm zS :=
 .mk _ i0 (by decide) ⟨by decide, by simp [zS], by simp [zS]⟩ ⟨by decide, by simp [zS], by simp [zS]⟩ i0 i0 ⟨i0, by decide, by simp [zS], by simp [zS]⟩ ok_zRef (.mk _ i0 i0 ok_zLin ok_zRef (by decide) (by simp [zS]) (by simp [zS])) (by decide) (by simp [zS]) (by decide) (by simp [zS]) (by simp [zS]) (by simp [zS])
theorem ends_ok (h78 : SetCopy) {p : Prg} (hp : OkPrg p) (hw : wtL (encPrg p) ≤ 400000000) (b : Bool) (path : List Int) (hz : b = true → path = []) (hl : path.length ≤ 1000) :
  ∃ (nn : Bool) (names : List ByteArray) (e : Int) (s1 s2 : Stm), names.length ≤ LIM ∧ OkStm s1 ∧ eqvL (encStm s1) (encStm s2) = true ∧
   Sp theEnv 19 [.agg (encPrg p), .slice (nk b) (path.map encI)] (.tup [.slice (nk nn) (names.map encS), .int .i64 e]) ∧
   Sp theEnv 20 [.agg (encPrg p), .slice (nk b) (path.map encI)] (.tup [.slice (nk nn) (names.map encS), .int .i64 e]) ∧
   Sp theEnv 21 [.agg (encPrg p), .slice (nk b) (path.map encI)] (.tup [.agg (encStm s1), .int .i64 e]) ∧
   Sp theEnv 22 [.agg (encPrg p), .slice (nk b) (path.map encI)] (.tup [.agg (encStm s2), .int .i64 e]) := by
 have hm := sm_prg hp (by omega)
 have hpn : p.params.length ≤ 400000000 := by
  have := wtR_len (enc := encS) (fun x => by simp [encS, wtL, wt]) p.params
  simp only [encPrg, wtL, wt, encStms_map] at hw
  omega
 have g1 := space_ok hp (by omega) b path
 have g2 := rspace_ok hp hm (by omega) b path hz hl
 have g3 := at_ok h78 hp (by omega) b path
 have g4 := rat_ok hp hm (by omega) b path hz hl
 rw [← prg_agree] at g2 g4
 by_cases hc : chkPrg p = true
 ·have hf := at_find hc path
  simp only [hc, if_true] at g1 g2 g3 g4
  cases hr : findR path p.body p.pn p.params with
  | none =>
   rw [hr] at hf g2 g4
   rw [hf] at g1 g3
   exact ⟨true, [], 5, zS, zS, by decide, ok_zS, refl_Stm _, g1, g2, g3, g4⟩
  | some y =>
   rw [hr] at hf g2 g4
   have hx : (⟨path, y.2.1, y.2.2, y.1⟩ : Step) ∈ allSteps p := List.mem_of_find?_eq_some hf
   have hxo := all_ok hp (by omega) _ hx
   rw [hf] at g1 g3
   exact ⟨y.2.1, y.2.2, 0, copyStm y.1, y.1, Nat.le_trans hxo.2.2.2 (by decide), ok_copyStm _ hxo.1, like_Stm _, g1, g2, g3, g4⟩
 ·simp only [hc, Bool.false_eq_true, if_false] at g1 g2 g3 g4
  exact ⟨true, [], 1, zS, zS, by decide, ok_zS, refl_Stm _, g1, g2, g3, g4⟩
mutual
theorem rd_okS : ∀ (x : Exp), OkExp x → ∀ r ∈ readsE x, OkRef r
 | ⟨op, k, l, r, n, args⟩, h, y, hy => by
  simp only [readsE] at hy
  split at hy
  ·simp at hy; subst hy; exact ok_copyRef h.r'
  ·exact rd_okL args h.s' y hy
theorem rd_okL : ∀ (xs : List Exp), (∀ x ∈ xs, OkExp x) → ∀ r ∈ readsEs xs, OkRef r
 | [], _, y, hy => by simp [readsEs] at hy
 | x :: xs, h, y, hy => by
  simp only [readsEs, List.mem_append] at hy
  rcases hy with hy | hy
  ·exact rd_okS x (h x List.mem_cons_self) y hy
  ·exact rd_okL xs (fun t ht => h t (List.mem_cons_of_mem _ ht)) y hy
end
def okInfo (y : Info) : Prop := OkStm (copyStm y.s) ∧ y.path.length ≤ 1000000000 ∧ y.names.length ≤ 1000000000 ∧ (∀ r ∈ y.rd, OkRef (copyRef r)) ∧ y.rd.length ≤ 1000000000
theorem info_ok {p : Prg} (hp : OkPrg p) (hw : wtL (encPrg p) ≤ 400000000) (hc : chkPrg p = true) : ∀ y ∈ infL [] p.pn p.params 0 p.body, okInfo y := by
 intro y hy
 have h1 : cpInfo y ∈ ((allSteps p).filter fun x => decide (x.s.kind = 3)).map infoOf := by
  rw [infos_prg hc]; exact List.mem_map_of_mem hy
 obtain ⟨x, hx, he⟩ := List.mem_map.1 h1
 have hxo := all_ok hp (by omega) x (List.mem_filter.1 hx).1
 have e1 : copyStm y.s = copyStm x.s := by have := congrArg Info.s he; exact this.symm
 have e2 : y.path = x.path := by have := congrArg Info.path he; exact this.symm
 have e3 : y.names = x.names := by have := congrArg Info.names he; exact this.symm
 have e4 : y.rd.map copyRef = readsE x.s.value := by have := congrArg Info.rd he; exact this.symm
 refine ⟨by rw [e1]; exact ok_copyStm _ hxo.1, by rw [e2]; exact hxo.2.2.1, by rw [e3]; exact hxo.2.2.2, fun r hr => ?_, ?_⟩
 ·exact rd_okS x.s.value hxo.1.value' _ (by rw [← e4]; exact List.mem_map_of_mem hr)
 ·have h2 := reads_wt x.s.value
  rw [← e4, List.length_map] at h2
  have h3 := hxo.2.1
  rw [wl_Stm] at h3
  omega
theorem alaw_ok (h78 : SetCopy) {p : Prg} (hp : OkPrg p) (hw : wtL (encPrg p) ≤ 400000000) (b : Bool) (path : List Int) (hz : b = true → path = []) (hlp : path.length ≤ LIM) : Sp theEnv 3 [.agg (encPrg p), .slice (nk b) (path.map encI)] (.bool true) := by
 have hlen : (allSteps p).length ≤ 500000000 := by
  have := lenL p.body (path := []) (nb := p.pn) (names := p.params) (i := 0)
  simp only [encPrg, wtL, wt, encStms_map] at hw
  unfold allSteps; omega
 have hA := assigns_ok h78 hp (by omega) hlen
 have hm := sm_prg hp (by omega)
 have hR := rassigns_ok hp hw hm
 refine Sp.fn rfl rfl rfl (by simp only [go_sem, Nat.reduceEqDiff, Nat.reduceAdd, Nat.reduceLeDiff, Nat.reduceMul, Nat.reduceSub, Int.reduceLT, Int.reduceLE, Int.reduceEq, Int.reduceAdd, Int.reduceNeg, reduceIte, reduceCtorEq, Nat.reduceLT]) (by simp only [go_sem, Nat.reduceEqDiff, Nat.reduceAdd, Nat.reduceLeDiff, Nat.reduceMul, Nat.reduceSub, Int.reduceLT, Int.reduceLE, Int.reduceEq, Int.reduceAdd, Int.reduceNeg, reduceIte, reduceCtorEq, Nat.reduceLT, implies_true]) fun S => ?_; simp only [a3, c3, go_sem, Nat.reduceEqDiff, Nat.reduceAdd, Nat.reduceLeDiff, Nat.reduceMul, Nat.reduceSub, Int.reduceLT, Int.reduceLE, Int.reduceEq, Int.reduceAdd, Int.reduceNeg, reduceIte, reduceCtorEq, Nat.reduceLT]
 rw [(few_ok hp 3000).call]
 simp only [go_sem, Nat.reduceEqDiff, Nat.reduceAdd, Nat.reduceLeDiff, Nat.reduceMul, Nat.reduceSub, Int.reduceLT, Int.reduceLE, Int.reduceEq, Int.reduceAdd, Int.reduceNeg, reduceIte, reduceCtorEq, Nat.reduceLT]
 rw [Run_if]
 simp only [go_sem, Nat.reduceEqDiff, Nat.reduceAdd, Nat.reduceLeDiff, Nat.reduceMul, Nat.reduceSub, Int.reduceLT, Int.reduceLE, Int.reduceEq, Int.reduceAdd, Int.reduceNeg, reduceIte, reduceCtorEq, Nat.reduceLT]
 split
 ·rw [awake_c]; simp only [go_sem, Nat.reduceEqDiff, Nat.reduceAdd, Nat.reduceLeDiff, Nat.reduceMul, Nat.reduceSub, Int.reduceLT, Int.reduceLE, Int.reduceEq, Int.reduceAdd, Int.reduceNeg, reduceIte, reduceCtorEq, Nat.reduceLT]
 ·rename_i hg
  have hl : path.length ≤ 1000 := by simp at hg; omega
  obtain ⟨nn, names, e, s1, s2, hnl, hs1, heq, g1, g2, g3, g4⟩ := ends_ok h78 hp hw b path hz hl
  have q1 := eq_names (b1 := nn) (b2 := nn) (l1 := names) (l2 := names) hnl
  rw [refl_R fun x _ => by simp [eqv_S]] at q1
  have q2 := rsame_stm s1 hs1 s2
  rw [heq] at q2
  rw [← prg_agree] at hR
  rw [hA.call]
  by_cases hc : chkPrg p = true
  ·have hio := info_ok hp hw hc
   have hil := infL_len p.body [] p.pn p.params 0
   have hAl : (infL [] p.pn p.params 0 p.body).length ≤ 400000000 := by
    simp only [encPrg, wtL, wt, encStms_map] at hw
    omega
   simp only [hc, if_true] at hR
   rw [fold_info, List.nil_append, infos_prg hc]
   revert hR hio hAl
   generalize infL [] p.pn p.params 0 p.body = A
   intro hio hAl hR
   rw [nk_cp, List.map_map]
   simp only [hc, go_sem, Nat.reduceEqDiff, Nat.reduceAdd, Nat.reduceLeDiff, Nat.reduceMul, Nat.reduceSub, Int.reduceLT, Int.reduceLE, Int.reduceEq, Int.reduceAdd, Int.reduceNeg, reduceIte, reduceCtorEq, Nat.reduceLT, hR.call]
   refine Run_range A.length [1, 2, 5, 7] [] (fun k _ S' => ∃ B, S' = ⟨encPrg p :: B, none⟩ :: S) (Nat.le_trans hAl (by decide)) (by simp only [go_sem, Nat.reduceEqDiff, Nat.reduceAdd, Nat.reduceLeDiff, Nat.reduceMul, Nat.reduceSub, Int.reduceLT, Int.reduceLE, Int.reduceEq, Int.reduceAdd, Int.reduceNeg, reduceIte, reduceCtorEq, Nat.reduceLT]) (by simp only [go_sem, Nat.reduceEqDiff, Nat.reduceAdd, Nat.reduceLeDiff, Nat.reduceMul, Nat.reduceSub, Int.reduceLT, Int.reduceLE, Int.reduceEq, Int.reduceAdd, Int.reduceNeg, reduceIte, reduceCtorEq, Nat.reduceLT]) rfl rfl rfl rfl (by simp only [go_sem, Nat.reduceEqDiff, Nat.reduceAdd, Nat.reduceLeDiff, Nat.reduceMul, Nat.reduceSub, Int.reduceLT, Int.reduceLE, Int.reduceEq, Int.reduceAdd, Int.reduceNeg, reduceIte, reduceCtorEq, Nat.reduceLT]) ⟨_, rfl⟩ ?_ ?_
   ·rintro k F _ hk ⟨B, rfl⟩ hi hkept
    simp only [go_sem, Nat.reduceEqDiff, Nat.reduceAdd, Nat.reduceLeDiff, Nat.reduceMul, Nat.reduceSub, Int.reduceLT, Int.reduceLE, Int.reduceEq, Int.reduceAdd, Int.reduceNeg, reduceIte, reduceCtorEq, Nat.reduceLT] at hkept
    obtain ⟨y, hy⟩ : ∃ y, A[k]? = some y := ⟨A[k], List.getElem?_eq_getElem hk⟩
    obtain ⟨y1, y2, y3, y4, y5⟩ := hio y (List.mem_of_getElem? hy)
    have hy0 : (A.map (encInfo ∘ cpInfo))[k]? = some (encInfo (cpInfo y)) := by simp [hy]
    have r1 := list_ok (b1 := false) (b2 := false) y2
    have r1' : Sp theEnv 15 [.slice .shut (y.path.map encI), .slice .shut (y.path.map encI)] (.bool true) := r1
    have r2 := eq_names (b1 := y.nb) (b2 := y.nb) (l1 := y.names) (l2 := y.names) (Nat.le_trans y3 (by decide))
    rw [refl_R fun x _ => by simp [eqv_S]] at r2
    have r3 := rsame_stm (copyStm y.s) y1 y.s
    rw [like_Stm] at r3
    have j0 : (cpInfo y).path = y.path := rfl
    have j1 : (cpInfo y).nb = y.nb := rfl
    have j2 : (cpInfo y).names = y.names := rfl
    have j3 : (cpInfo y).s = copyStm y.s := rfl
    have j4 : (cpInfo y).rd = y.rd.map copyRef := rfl
    simp only [go_sem, Nat.reduceEqDiff, Nat.reduceAdd, Nat.reduceLeDiff, Nat.reduceMul, Nat.reduceSub, Int.reduceLT, Int.reduceLE, Int.reduceEq, Int.reduceAdd, Int.reduceNeg, reduceIte, reduceCtorEq, Nat.reduceLT, hkept, hi, iaO_at hy0 (len_Info _), iaO_map hy, f_Info_0, f_Info_1, f_Info_2, f_Info_21, len_Info, j0, j1, j2, j3, j4, r1'.call, r2.call, r3.call, List.length_map]
    refine Run_range y.rd.length [1, 2, 5, 7, 9, 50] [] (fun k _ S' => ∃ B, S' = ⟨encPrg p :: B, none⟩ :: S) (Nat.le_trans y5 (by decide)) (by simp only [go_sem, Nat.reduceEqDiff, Nat.reduceAdd, Nat.reduceLeDiff, Nat.reduceMul, Nat.reduceSub, Int.reduceLT, Int.reduceLE, Int.reduceEq, Int.reduceAdd, Int.reduceNeg, reduceIte, reduceCtorEq, Nat.reduceLT, hkept, hi]) (by simp only [go_sem, Nat.reduceEqDiff, Nat.reduceAdd, Nat.reduceLeDiff, Nat.reduceMul, Nat.reduceSub, Int.reduceLT, Int.reduceLE, Int.reduceEq, Int.reduceAdd, Int.reduceNeg, reduceIte, reduceCtorEq, Nat.reduceLT, hkept, hi]) rfl rfl rfl rfl (by simp only [go_sem, Nat.reduceEqDiff, Nat.reduceAdd, Nat.reduceLeDiff, Nat.reduceMul, Nat.reduceSub, Int.reduceLT, Int.reduceLE, Int.reduceEq, Int.reduceAdd, Int.reduceNeg, reduceIte, reduceCtorEq, Nat.reduceLT, hkept, hi]) ⟨_, rfl⟩ ?_ ?_
    ·rintro m F _ hm ⟨B, rfl⟩ hi2 hkept2
     simp only [go_sem, Nat.reduceEqDiff, Nat.reduceAdd, Nat.reduceLeDiff, Nat.reduceMul, Nat.reduceSub, Int.reduceLT, Int.reduceLE, Int.reduceEq, Int.reduceAdd, Int.reduceNeg, reduceIte, reduceCtorEq, Nat.reduceLT, hkept, hi] at hkept2
     obtain ⟨r, hr⟩ : ∃ r, y.rd[m]? = some r := ⟨y.rd[m], List.getElem?_eq_getElem hm⟩
     have hr0 : ((y.rd.map copyRef).map encRef)[m]? = some (encRef (copyRef r)) := by simp [hr]
     have r4 := rsame_ref (b := r) (y4 r (List.mem_of_getElem? hr))
     rw [like_Ref] at r4
     simp only [go_sem, Nat.reduceEqDiff, Nat.reduceAdd, Nat.reduceLeDiff, Nat.reduceMul, Nat.reduceSub, Int.reduceLT, Int.reduceLE, Int.reduceEq, Int.reduceAdd, Int.reduceNeg, reduceIte, reduceCtorEq, Nat.reduceLT, hkept2, hi2, iaO_at hy0 (len_Info _), iaO_map hy, iaO_at hr0 (len_Ref _), iaO_map hr, f_Info_21, len_Info, j4, r4.call]
    ·rintro F _ ⟨B, rfl⟩ hkept2
     simp only [go_sem, Nat.reduceEqDiff, Nat.reduceAdd, Nat.reduceLeDiff, Nat.reduceMul, Nat.reduceSub, Int.reduceLT, Int.reduceLE, Int.reduceEq, Int.reduceAdd, Int.reduceNeg, reduceIte, reduceCtorEq, Nat.reduceLT, hkept, hi] at hkept2
     simp only [go_sem, Nat.reduceEqDiff, Nat.reduceAdd, Nat.reduceLeDiff, Nat.reduceMul, Nat.reduceSub, Int.reduceLT, Int.reduceLE, Int.reduceEq, Int.reduceAdd, Int.reduceNeg, reduceIte, reduceCtorEq, Nat.reduceLT, hkept2]
   ·rintro F _ ⟨B, rfl⟩ hkept
    simp only [go_sem, Nat.reduceEqDiff, Nat.reduceAdd, Nat.reduceLeDiff, Nat.reduceMul, Nat.reduceSub, Int.reduceLT, Int.reduceLE, Int.reduceEq, Int.reduceAdd, Int.reduceNeg, reduceIte, reduceCtorEq, Nat.reduceLT] at hkept
    simp only [go_sem, Nat.reduceEqDiff, Nat.reduceAdd, Nat.reduceLeDiff, Nat.reduceMul, Nat.reduceSub, Int.reduceLT, Int.reduceLE, Int.reduceEq, Int.reduceAdd, Int.reduceNeg, reduceIte, reduceCtorEq, Nat.reduceLT, hkept, g1.call, g2.call, g3.call, g4.call, q1.call, q2.call]
    rw [awake_c]; simp only [go_sem, Nat.reduceEqDiff, Nat.reduceAdd, Nat.reduceLeDiff, Nat.reduceMul, Nat.reduceSub, Int.reduceLT, Int.reduceLE, Int.reduceEq, Int.reduceAdd, Int.reduceNeg, reduceIte, reduceCtorEq, Nat.reduceLT]
  ·simp only [hc, Bool.false_eq_true, if_false] at hR
   simp only [hc, go_sem, Nat.reduceEqDiff, Nat.reduceAdd, Nat.reduceLeDiff, Nat.reduceMul, Nat.reduceSub, Int.reduceLT, Int.reduceLE, Int.reduceEq, Int.reduceAdd, Int.reduceNeg, reduceIte, reduceCtorEq, Nat.reduceLT, hR.call]
   refine Run_range 0 [1, 2, 5, 7] [] (fun k _ S' => ∃ B, S' = ⟨encPrg p :: B, none⟩ :: S) (by decide) (by simp only [go_sem, Nat.reduceEqDiff, Nat.reduceAdd, Nat.reduceLeDiff, Nat.reduceMul, Nat.reduceSub, Int.reduceLT, Int.reduceLE, Int.reduceEq, Int.reduceAdd, Int.reduceNeg, reduceIte, reduceCtorEq, Nat.reduceLT]) (by simp only [go_sem, Nat.reduceEqDiff, Nat.reduceAdd, Nat.reduceLeDiff, Nat.reduceMul, Nat.reduceSub, Int.reduceLT, Int.reduceLE, Int.reduceEq, Int.reduceAdd, Int.reduceNeg, reduceIte, reduceCtorEq, Nat.reduceLT]) rfl rfl rfl rfl (by simp only [go_sem, Nat.reduceEqDiff, Nat.reduceAdd, Nat.reduceLeDiff, Nat.reduceMul, Nat.reduceSub, Int.reduceLT, Int.reduceLE, Int.reduceEq, Int.reduceAdd, Int.reduceNeg, reduceIte, reduceCtorEq, Nat.reduceLT]) ⟨_, rfl⟩ ?_ ?_
   ·rintro k F _ hk
    omega
   ·rintro F _ ⟨B, rfl⟩ hkept
    simp only [go_sem, Nat.reduceEqDiff, Nat.reduceAdd, Nat.reduceLeDiff, Nat.reduceMul, Nat.reduceSub, Int.reduceLT, Int.reduceLE, Int.reduceEq, Int.reduceAdd, Int.reduceNeg, reduceIte, reduceCtorEq, Nat.reduceLT] at hkept
    simp only [go_sem, Nat.reduceEqDiff, Nat.reduceAdd, Nat.reduceLeDiff, Nat.reduceMul, Nat.reduceSub, Int.reduceLT, Int.reduceLE, Int.reduceEq, Int.reduceAdd, Int.reduceNeg, reduceIte, reduceCtorEq, Nat.reduceLT, hkept, g1.call, g2.call, g3.call, g4.call, q1.call, q2.call]
    rw [awake_c]; simp only [go_sem, Nat.reduceEqDiff, Nat.reduceAdd, Nat.reduceLeDiff, Nat.reduceMul, Nat.reduceSub, Int.reduceLT, Int.reduceLE, Int.reduceEq, Int.reduceAdd, Int.reduceNeg, reduceIte, reduceCtorEq, Nat.reduceLT]
end Wp
end AM
end Go.Proofs.YtimfbnojmdnlnaaGreat
