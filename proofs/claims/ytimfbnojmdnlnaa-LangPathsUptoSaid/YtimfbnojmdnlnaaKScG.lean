/- The law LangPaths, on trees (given set.Copy). -/
import Derived.Test.YtimfbnojmdnlnaaKM30
import Derived.Test.YtimfbnojmdnlnaaKSbR
import Derived.Test.YtimfbnojmdnlnaaKSbSa
import Derived.Test.YtimfbnojmdnlnaaKSbMa
import Derived.Test.YtimfbnojmdnlnaaKM22
set_option linter.unusedVariables false
set_option linter.unusedSimpArgs false
set_option maxRecDepth 100000
namespace Go.Proofs.Ytimfbnojmdnlnaa
namespace AM
namespace Wp
theorem emp {α : Type} {l : List α} (h : l.isEmpty = true) : l = [] := by cases l <;> first | rfl | cases h
theorem ok_copyRef {x : Ref} (h : OkRef x) : OkRef (copyRef x) := ⟨h.a, h.l, h.s, emp⟩
theorem ok_copyExp : ∀ x, OkExp x → OkExp (copyExp x) := by
  refine Exp.ind fun x ih h => ?_
  cases x with
  | mk op k l r n args =>
    refine .mk _ h.op' h.k' h.l' (ok_copyRef h.r') ?_ ?_ ?_
    · simp only [copyExp, copyExps_map, List.length_map]; exact h.n'
    · intro y hy
      simp only [copyExp, copyExps_map] at hy
      obtain ⟨a, ha, rfl⟩ := List.mem_map.1 hy
      exact ih a ha (h.s' a ha)
    · intro he
      simp only [copyExp, copyExps_map] at he ⊢
      rw [emp he]; rfl
theorem ok_copyBound {x : Bound} (h : OkBound x) : OkBound (copyBound x) := by
  refine ⟨by simp only [copyBound, List.length_map]; exact h.l, fun y hy => ?_, fun he => ?_⟩
  · obtain ⟨a, ha, rfl⟩ := List.mem_map.1 hy
    exact ⟨(h.s a ha).l, (h.s a ha).s, emp⟩
  · simp only [copyBound] at he ⊢; rw [emp he]; rfl
theorem ok_copyPSet {x : PSet} (h : OkPSet x) : OkPSet (copyPSet x) := by
  refine ⟨h.d, by simp only [copyPSet, List.length_map]; exact h.l, fun y hy => ?_, fun he => ?_⟩
  · obtain ⟨a, ha, rfl⟩ := List.mem_map.1 hy
    exact ⟨(h.s a ha).l, (h.s a ha).s, fun e => by cases e⟩
  · simp only [copyPSet] at he ⊢; rw [emp he]; rfl
theorem ok_copyStm : ∀ x, OkStm x → OkStm (copyStm x) := by
  refine Stm.ind fun x ihb ihe h => ?_
  cases x with
  | mk kind name low high step mark test target value bn body en els =>
    refine .mk _ h.kind' h.name' (ok_copyBound h.low') (ok_copyBound h.high') h.step' h.mark' (ok_copyPSet h.test') (ok_copyRef h.target') (ok_copyExp _ h.value') ?_ ?_ ?_ ?_ ?_ ?_
    · simp only [copyStm, copyStms_map, List.length_map]; exact h.bn'
    · intro y hy
      simp only [copyStm, copyStms_map] at hy
      obtain ⟨a, ha, rfl⟩ := List.mem_map.1 hy
      exact ihb a ha (h.body' a ha)
    · simp only [copyStm, copyStms_map, List.length_map]; exact h.en'
    · intro y hy
      simp only [copyStm, copyStms_map] at hy
      obtain ⟨a, ha, rfl⟩ := List.mem_map.1 hy
      exact ihe a ha (h.els' a ha)
    · intro he
      simp only [copyStm, copyStms_map] at he ⊢
      rw [emp he]; rfl
    · intro he
      simp only [copyStm, copyStms_map] at he ⊢
      rw [emp he]; rfl
mutual
theorem lenS : ∀ (s : Stm) {path : List Int} {nb : Bool} {names : List ByteArray} {i : Nat}, (stepsS path nb names i s).length ≤ wtL (encStm s)
  | ⟨kind, name, low, high, step, mark, test, target, value, bn, body, en, els⟩, path, nb, names, i => by
    have h1 := lenL body (path := path ++ [(i : Int)] ++ [0]) (nb := inNb nb ⟨kind, name, low, high, step, mark, test, target, value, bn, body, en, els⟩) (names := inNames names ⟨kind, name, low, high, step, mark, test, target, value, bn, body, en, els⟩) (i := 0)
    have h2 := lenL els (path := path ++ [(i : Int)] ++ [1]) (nb := inNb nb ⟨kind, name, low, high, step, mark, test, target, value, bn, body, en, els⟩) (names := inNames names ⟨kind, name, low, high, step, mark, test, target, value, bn, body, en, els⟩) (i := 0)
    rw [wl_Stm]
    simp only [stepsS, List.length_cons, List.length_append]
    omega
theorem lenL : ∀ (l : List Stm) {path : List Int} {nb : Bool} {names : List ByteArray} {i : Nat}, (stepsL path nb names i l).length ≤ wtR (l.map encStm)
  | [], _, _, _, _ => by simp [stepsL]
  | s :: l, path, nb, names, i => by
    have h1 := lenS s (path := path) (nb := nb) (names := names) (i := i)
    have h2 := lenL l (path := path) (nb := nb) (names := names) (i := i + 1)
    simp only [stepsL, List.length_append, List.map_cons, wtR]
    omega
end
theorem kind_copy (x : Stm) : (copyStm x).kind = x.kind := by cases x; rw [copyStm]
theorem len_Info (y : Info) : (encInfo y).length = 22 := by simp [encInfo, len_Stm]
@[go_sem] theorem dz_Info (y : Info) : dz (some (encInfo y)) = some (encInfo y) := dz_len (by rw [len_Info]; decide)
theorem low_Info (y : Info) (n : Nat) : lowL n (encInfo y) = true := by simp [encInfo, lowL, low, lowL_append, low_Stm]
theorem strip_Info (y : Info) : (encInfo y).map strip = encInfo y := by simp [encInfo, strip_Stm, strip_nk]; rfl
theorem all_Info (y : Info) : cutV (encInfo y) 0 22 true = some (.agg (encInfo y)) := by rw [cutV_all (len_Info y), strip_Info]
theorem f_Info_0 (y : Info) : cutV (encInfo y) 0 1 false = some (.slice .shut (y.path.map encI)) := by simp only [encInfo, go_sem, Nat.reduceEqDiff, Nat.reduceAdd, Nat.reduceLeDiff, Nat.reduceMul, Nat.reduceSub, Int.reduceLT, Int.reduceLE, Int.reduceEq, Int.reduceAdd, Int.reduceNeg, reduceIte, reduceCtorEq, Nat.reduceLT]
theorem f_Info_1 (y : Info) : cutV (encInfo y) 1 1 false = some (.slice (nk y.nb) (y.names.map encS)) := by simp only [encInfo, go_sem, Nat.reduceEqDiff, Nat.reduceAdd, Nat.reduceLeDiff, Nat.reduceMul, Nat.reduceSub, Int.reduceLT, Int.reduceLE, Int.reduceEq, Int.reduceAdd, Int.reduceNeg, reduceIte, reduceCtorEq, Nat.reduceLT]
theorem f_Info_2 (y : Info) : cutV (encInfo y) 2 19 true = some (.agg (encStm y.s)) := by
  have h := len_Stm y.s
  simp only [encInfo, go_sem, Nat.reduceEqDiff, Nat.reduceAdd, Nat.reduceLeDiff, Nat.reduceMul, Nat.reduceSub, Int.reduceLT, Int.reduceLE, Int.reduceEq, Int.reduceAdd, Int.reduceNeg, reduceIte, reduceCtorEq, Nat.reduceLT, cutV, cutL, List.length_append, h, List.length_singleton]
  simp [List.take_append, h, ofCells, strip_Stm]
theorem paths_ok (h78 : SetCopy) {p : Prg} (hp : OkPrg p) (hw : wtL (encPrg p) ≤ 400000000) : Sp theEnv 4 [.agg (encPrg p)] (.bool true) := by
  have hlen : (allSteps p).length ≤ 500000000 := by
    have := lenL p.body (path := []) (nb := p.pn) (names := p.params) (i := 0)
    simp only [encPrg, wtL, wt, encStms_map] at hw
    unfold allSteps; omega
  have hA := assigns_ok h78 hp (by omega) hlen
  refine Sp.fn rfl rfl rfl (by simp only [go_sem, Nat.reduceEqDiff, Nat.reduceAdd, Nat.reduceLeDiff, Nat.reduceMul, Nat.reduceSub, Int.reduceLT, Int.reduceLE, Int.reduceEq, Int.reduceAdd, Int.reduceNeg, reduceIte, reduceCtorEq, Nat.reduceLT]) (by simp only [go_sem, Nat.reduceEqDiff, Nat.reduceAdd, Nat.reduceLeDiff, Nat.reduceMul, Nat.reduceSub, Int.reduceLT, Int.reduceLE, Int.reduceEq, Int.reduceAdd, Int.reduceNeg, reduceIte, reduceCtorEq, Nat.reduceLT, implies_true]) fun S => ?_; simp only [a4, c4, go_sem, Nat.reduceEqDiff, Nat.reduceAdd, Nat.reduceLeDiff, Nat.reduceMul, Nat.reduceSub, Int.reduceLT, Int.reduceLE, Int.reduceEq, Int.reduceAdd, Int.reduceNeg, reduceIte, reduceCtorEq, Nat.reduceLT]
  rw [(few_ok hp 3000).call]
  simp only [go_sem, Nat.reduceEqDiff, Nat.reduceAdd, Nat.reduceLeDiff, Nat.reduceMul, Nat.reduceSub, Int.reduceLT, Int.reduceLE, Int.reduceEq, Int.reduceAdd, Int.reduceNeg, reduceIte, reduceCtorEq, Nat.reduceLT]
  rw [Run_if]
  simp only [go_sem, Nat.reduceEqDiff, Nat.reduceAdd, Nat.reduceLeDiff, Nat.reduceMul, Nat.reduceSub, Int.reduceLT, Int.reduceLE, Int.reduceEq, Int.reduceAdd, Int.reduceNeg, reduceIte, reduceCtorEq, Nat.reduceLT]
  split
  · rw [awake_c]; simp only [go_sem, Nat.reduceEqDiff, Nat.reduceAdd, Nat.reduceLeDiff, Nat.reduceMul, Nat.reduceSub, Int.reduceLT, Int.reduceLE, Int.reduceEq, Int.reduceAdd, Int.reduceNeg, reduceIte, reduceCtorEq, Nat.reduceLT]
  · rw [hA.call]
    by_cases hc : chkPrg p = true
    · have hL : ∀ x ∈ (allSteps p).filter (fun x => decide (x.s.kind = 3)), x ∈ allSteps p ∧ x.s.kind = 3 := fun x hx => by simpa using hx
      have hpair : ((allSteps p).filter (fun x => decide (x.s.kind = 3))).Pairwise StepLt := List.Pairwise.filter _ (pairL p.body)
      have hLl : ((allSteps p).filter (fun x => decide (x.s.kind = 3))).length ≤ 500000000 := Nat.le_trans (List.length_filter_le _ _) hlen
      rw [fold_info, List.nil_append, List.map_map]
      revert hL hpair hLl
      generalize (allSteps p).filter (fun x => decide (x.s.kind = 3)) = L
      intro hL hpair hLl
      simp only [hc, go_sem, Nat.reduceEqDiff, Nat.reduceAdd, Nat.reduceLeDiff, Nat.reduceMul, Nat.reduceSub, Int.reduceLT, Int.reduceLE, Int.reduceEq, Int.reduceAdd, Int.reduceNeg, reduceIte, reduceCtorEq, Nat.reduceLT]
      refine Run_range L.length [1, 3, 4, 22] [] (fun k _ S' => ∃ B, S' = ⟨encPrg p :: B, none⟩ :: S) (Nat.le_trans hLl (by decide)) (by simp only [go_sem, Nat.reduceEqDiff, Nat.reduceAdd, Nat.reduceLeDiff, Nat.reduceMul, Nat.reduceSub, Int.reduceLT, Int.reduceLE, Int.reduceEq, Int.reduceAdd, Int.reduceNeg, reduceIte, reduceCtorEq, Nat.reduceLT]) (by simp only [go_sem, Nat.reduceEqDiff, Nat.reduceAdd, Nat.reduceLeDiff, Nat.reduceMul, Nat.reduceSub, Int.reduceLT, Int.reduceLE, Int.reduceEq, Int.reduceAdd, Int.reduceNeg, reduceIte, reduceCtorEq, Nat.reduceLT]) rfl rfl rfl rfl (by simp only [go_sem, Nat.reduceEqDiff, Nat.reduceAdd, Nat.reduceLeDiff, Nat.reduceMul, Nat.reduceSub, Int.reduceLT, Int.reduceLE, Int.reduceEq, Int.reduceAdd, Int.reduceNeg, reduceIte, reduceCtorEq, Nat.reduceLT]) ⟨_, rfl⟩ ?_ ?_
      · rintro k F _ hk ⟨B, rfl⟩ hi hkept
        simp only [go_sem, Nat.reduceEqDiff, Nat.reduceAdd, Nat.reduceLeDiff, Nat.reduceMul, Nat.reduceSub, Int.reduceLT, Int.reduceLE, Int.reduceEq, Int.reduceAdd, Int.reduceNeg, reduceIte, reduceCtorEq, Nat.reduceLT] at hkept
        obtain ⟨x, hx⟩ : ∃ x, L[k]? = some x := ⟨L[k], List.getElem?_eq_getElem hk⟩
        have hxm := List.mem_of_getElem? hx
        obtain ⟨hxa, hxk⟩ := hL x hxm
        have hxo := all_ok hp (by omega) x hxa
        have hat : atPath p x.path = some x := pair_find (pairL p.body) hxa
        have h1 := at_ok h78 hp (by omega) false x.path
        have h2 := space_ok hp (by omega) false x.path
        simp only [hc, if_true, hat] at h1 h2
        have h3 := rsame_stm (copyStm x.s) (ok_copyStm x.s hxo.1) (copyStm x.s)
        have h4 := eq_names (b1 := x.nb) (b2 := x.nb) (l1 := x.names) (l2 := x.names) (Nat.le_trans hxo.2.2.2 (by decide))
        rw [refl_Stm] at h3
        rw [refl_R fun x _ => by simp [eqv_S]] at h4
        have hi0 : (L.map (encInfo ∘ infoOf))[k]? = some (encInfo (infoOf x)) := by simp [hx]
        have h1' : Sp theEnv 13 [.agg (encPrg p), .slice .shut (x.path.map encI)] (.tup [.agg (encStm (copyStm x.s)), .int .i64 0]) := h1
        have h2' : Sp theEnv 14 [.agg (encPrg p), .slice .shut (x.path.map encI)] (.tup [.slice (nk x.nb) (x.names.map encS), .int .i64 0]) := h2
        have i0 : (infoOf x).path = x.path := rfl
        have i1 : (infoOf x).nb = x.nb := rfl
        have i2 : (infoOf x).names = x.names := rfl
        have i3 : (infoOf x).s = copyStm x.s := rfl
        have hk3 : (copyStm x.s).kind = 3 := by rw [kind_copy]; exact hxk
        simp only [go_sem, Nat.reduceEqDiff, Nat.reduceAdd, Nat.reduceLeDiff, Nat.reduceMul, Nat.reduceSub, Int.reduceLT, Int.reduceLE, Int.reduceEq, Int.reduceAdd, Int.reduceNeg, reduceIte, reduceCtorEq, Nat.reduceLT, hkept, hi, iaO_at hi0 (len_Info _), all_Info, strip_Info, low_Info, len_Info, f_Info_0, f_Info_1, f_Info_2, i0, i1, i2, i3, h1'.call, h2'.call]
        simp only [go_sem, Nat.reduceEqDiff, Nat.reduceAdd, Nat.reduceLeDiff, Nat.reduceMul, Nat.reduceSub, Int.reduceLT, Int.reduceLE, Int.reduceEq, Int.reduceAdd, Int.reduceNeg, reduceIte, reduceCtorEq, Nat.reduceLT, hkept, hi, all_Info, strip_Info, low_Info, len_Info, f_Info_0, f_Info_1, f_Info_2, i0, i1, i2, i3, hk3, h3.call, h4.call]
        rcases Nat.eq_zero_or_pos k with rfl | hpos
        · simp only [go_sem, Nat.reduceEqDiff, Nat.reduceAdd, Nat.reduceLeDiff, Nat.reduceMul, Nat.reduceSub, Int.reduceLT, Int.reduceLE, Int.reduceEq, Int.reduceAdd, Int.reduceNeg, reduceIte, reduceCtorEq, Nat.reduceLT]
        · have hgt : decide ((0 : Int) < (k : Int)) = true := by simpa using hpos
          obtain ⟨j, rfl⟩ : ∃ j, k = j + 1 := ⟨k - 1, by omega⟩
          have hwr : IntKind.i64.wrap (((j + 1 : Nat) : Int) - 1) = (j : Int) := by rw [wrap64 (by omega) (by omega)]; omega
          obtain ⟨y, hy⟩ : ∃ y, L[j]? = some y := ⟨L[j]'(by omega), List.getElem?_eq_getElem (by omega)⟩
          have hym := List.mem_of_getElem? hy
          obtain ⟨hya, hyk⟩ := hL y hym
          have hyo := all_ok hp (by omega) y hya
          have hj0 : (L.map (encInfo ∘ infoOf))[j]? = some (encInfo (infoOf y)) := by simp [hy]
          have hlt : StepLt y x := by
            have h1 := List.pairwise_iff_getElem.1 hpair j (j + 1) (by omega) hk (by omega)
            rw [(List.getElem?_eq_some_iff.1 hy).2, (List.getElem?_eq_some_iff.1 hx).2] at h1
            exact h1
          have hnp : ¬ y.path <+: x.path := fun h => by
            have hl := leaf_prg hc y hya hyk
            rcases hlt.2 h with h | h
            · exact h hl.1
            · exact h hl.2
          have hord := ord_neg hlt.1 hnp
          have hmm : mmO false (.int .i64 (y.path.length : Int)) (.int .i64 (x.path.length : Int)) = some (.int .i64 ((min y.path.length x.path.length : Nat) : Int)) := by
            simp only [mmO, if_true, Bool.false_eq_true, if_false]
            congr 2
            split <;> omega
          have hq := order_ok (b1 := false) (b2 := false) (a := y.path.take (min y.path.length x.path.length)) (b := x.path.take (min y.path.length x.path.length)) (by have := hyo.2.2.1; simp; omega) (by simp)
          rw [hord] at hq
          have hq' : Sp theEnv 17 [.slice .shut ((y.path.take (min y.path.length x.path.length)).map encI), .slice .shut ((x.path.take (min y.path.length x.path.length)).map encI)] (.int .i64 (-1)) := hq
          have c1 := cutO_hi (n := 1) (k := min y.path.length x.path.length) (kk := .i64) (xs := y.path.map encI) (lens_I _) (by simp; omega)
          have c2 := cutO_hi (n := 1) (k := min y.path.length x.path.length) (kk := .i64) (xs := x.path.map encI) (lens_I _) (by simp; omega)
          rw [← List.map_take] at c1 c2
          have j0 : (infoOf y).path = y.path := rfl
          simp only [hgt, go_sem, Nat.reduceEqDiff, Nat.reduceAdd, Nat.reduceLeDiff, Nat.reduceMul, Nat.reduceSub, Int.reduceLT, Int.reduceLE, Int.reduceEq, Int.reduceAdd, Int.reduceNeg, reduceIte, reduceCtorEq, Nat.reduceLT, hkept, hwr, iaO_at hj0 (len_Info _), f_Info_0, i0, j0, len_Info]
          simp only [go_sem, Nat.reduceEqDiff, Nat.reduceAdd, Nat.reduceLeDiff, Nat.reduceMul, Nat.reduceSub, Int.reduceLT, Int.reduceLE, Int.reduceEq, Int.reduceAdd, Int.reduceNeg, reduceIte, reduceCtorEq, Nat.reduceLT, List.length_map, hmm, c1, c2, hq'.call, f_Info_0, i0, j0]
      · rintro F _ ⟨B, rfl⟩ hkept
        simp only [go_sem, Nat.reduceEqDiff, Nat.reduceAdd, Nat.reduceLeDiff, Nat.reduceMul, Nat.reduceSub, Int.reduceLT, Int.reduceLE, Int.reduceEq, Int.reduceAdd, Int.reduceNeg, reduceIte, reduceCtorEq, Nat.reduceLT]
        rw [awake_c]; simp only [go_sem, Nat.reduceEqDiff, Nat.reduceAdd, Nat.reduceLeDiff, Nat.reduceMul, Nat.reduceSub, Int.reduceLT, Int.reduceLE, Int.reduceEq, Int.reduceAdd, Int.reduceNeg, reduceIte, reduceCtorEq, Nat.reduceLT]
    · simp only [hc, go_sem, Nat.reduceEqDiff, Nat.reduceAdd, Nat.reduceLeDiff, Nat.reduceMul, Nat.reduceSub, Int.reduceLT, Int.reduceLE, Int.reduceEq, Int.reduceAdd, Int.reduceNeg, reduceIte, reduceCtorEq, Nat.reduceLT]
      refine Run_range 0 [1, 3, 4, 22] [] (fun k _ S' => ∃ B, S' = ⟨encPrg p :: B, none⟩ :: S) (by decide) (by simp only [go_sem, Nat.reduceEqDiff, Nat.reduceAdd, Nat.reduceLeDiff, Nat.reduceMul, Nat.reduceSub, Int.reduceLT, Int.reduceLE, Int.reduceEq, Int.reduceAdd, Int.reduceNeg, reduceIte, reduceCtorEq, Nat.reduceLT]) (by simp only [go_sem, Nat.reduceEqDiff, Nat.reduceAdd, Nat.reduceLeDiff, Nat.reduceMul, Nat.reduceSub, Int.reduceLT, Int.reduceLE, Int.reduceEq, Int.reduceAdd, Int.reduceNeg, reduceIte, reduceCtorEq, Nat.reduceLT]) rfl rfl rfl rfl (by simp only [go_sem, Nat.reduceEqDiff, Nat.reduceAdd, Nat.reduceLeDiff, Nat.reduceMul, Nat.reduceSub, Int.reduceLT, Int.reduceLE, Int.reduceEq, Int.reduceAdd, Int.reduceNeg, reduceIte, reduceCtorEq, Nat.reduceLT]) ⟨_, rfl⟩ ?_ ?_
      · rintro k F _ hk
        omega
      · rintro F _ ⟨B, rfl⟩ hkept
        simp only [go_sem, Nat.reduceEqDiff, Nat.reduceAdd, Nat.reduceLeDiff, Nat.reduceMul, Nat.reduceSub, Int.reduceLT, Int.reduceLE, Int.reduceEq, Int.reduceAdd, Int.reduceNeg, reduceIte, reduceCtorEq, Nat.reduceLT]
        rw [awake_c]; simp only [go_sem, Nat.reduceEqDiff, Nat.reduceAdd, Nat.reduceLeDiff, Nat.reduceMul, Nat.reduceSub, Int.reduceLT, Int.reduceLE, Int.reduceEq, Int.reduceAdd, Int.reduceNeg, reduceIte, reduceCtorEq, Nat.reduceLT]
end Wp
end AM
end Go.Proofs.Ytimfbnojmdnlnaa
