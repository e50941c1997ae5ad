/- The reference's check, whole; both checks agree. -/
import Derived.Test.YtimfbnojmdnlnaaKSbJ
set_option linter.unusedVariables false
set_option linter.unusedSimpArgs false
set_option maxRecDepth 100000
namespace Go.Proofs.Ytimfbnojmdnlnaa
namespace AM
namespace Wp
inductive SmS : Stm → Prop where
  | mk (x : Stm) (v : cntE x.value ≤ 1000000000) (b : ∀ y ∈ x.body, SmS y) (e : ∀ y ∈ x.els, SmS y) : SmS x
theorem ref_all {p : Prg} {l ci : Nat} (hp : OkPrg p) : ∀ s, OkStm s → SmS s → RefStmt p l ci s := by
  refine Stm.ind fun s ihb ihe hs hm => ?_
  obtain ⟨_, hv, hb, he⟩ := hm
  exact ref_stm hp hs hv (ref_body hs.bn' fun t ht => ihb t ht (hs.body' t ht) (hb t ht)) (ref_body hs.en' fun t ht => ihe t ht (hs.els' t ht) (he t ht))
def arrOk (n : Int) (a : Arr) : Bool := decide ((a.sizes.length : Int) ≤ 3) && a.sizes.all (vOverL n)
def allNames (p : Prg) : List ByteArray := p.params ++ p.arrays.map (·.name)
def refPrg (p : Prg) : Bool := (decide ((p.params.length : Int) ≤ 2) && decide ((p.arrays.length : Int) ≤ 8)) && p.arrays.all (arrOk p.params.length) && hPar [] (allNames p) && (refList p p.body p.params 0 0).1
theorem hArr_split {n : Int} : ∀ {l : List Arr} {acc : List ByteArray}, hArr n acc l = (l.all (arrOk n) && hPar acc (l.map (·.name)))
  | [], acc => rfl
  | a :: l, acc => by
    simp only [hArr, hArr_split (l := l), List.all_cons, List.map_cons, hPar, arrOk]
    cases vName a.name <;> cases isNew acc a.name <;> cases decide ((a.sizes.length : Int) ≤ 3) <;> cases a.sizes.all (vOverL n) <;> simp
theorem prg_agree (p : Prg) : chkPrg p = refPrg p := by
  unfold chkPrg refPrg vHead allNames
  have h := (stm_agree (p := p))
  have hb : (chkBody p p.body p.params 0).1 = (refList p p.body p.params 0 0).1 := by
    unfold chkBody
    have hd : deep p p.body p.params = true := by simp only [deep]; simp
    rw [if_pos hd]
    have list : ∀ (l : List Stm) (st : Int), (chkList p l p.params st).1 = (refList p l p.params 0 st).1 := by
      intro l
      induction l with
      | nil => intro st; rw [chkList, refList]
      | cons s l ih =>
        intro st
        rw [chkList_cons, refList_cons]
        have a := h s p.params 0 (st + 1) (by omega)
        by_cases h1 : st + 1 ≤ 256
        · have h1' : ¬(256 < st + 1 ∨ 10 < (0 : Int)) := by omega
          rw [if_pos h1, if_neg h1', ← a.1]
          split
          · rename_i h2
            rw [← a.2 h2]
            exact ih _
          · rfl
        · have h1' : 256 < st + 1 ∨ 10 < (0 : Int) := by omega
          rw [if_neg h1, if_pos h1']
    exact list _ _
  rw [hb, hArr_split, hPar_app, List.nil_append]
  cases decide ((p.params.length : Int) ≤ 2) && decide ((p.arrays.length : Int) ≤ 8) <;> cases p.arrays.all (arrOk p.params.length) <;> cases hPar [] p.params <;> simp
theorem valid_ref {p : Prg} (hp : OkPrg p) (hm : ∀ s ∈ p.body, SmS s) : Sp theEnv 33 [.agg (encPrg p)] (.bool (refPrg p)) := by
  refine Sp.fn rfl rfl rfl (by simp only [go_sem, Nat.reduceEqDiff, Nat.reduceAdd, Nat.reduceLeDiff, Nat.reduceMul, Nat.reduceSub, Int.reduceLT, Int.reduceLE, Int.reduceEq, Int.reduceAdd, Int.reduceNeg, reduceIte, reduceCtorEq, Nat.reduceLT]) (by simp only [go_sem, Nat.reduceEqDiff, Nat.reduceAdd, Nat.reduceLeDiff, Nat.reduceMul, Nat.reduceSub, Int.reduceLT, Int.reduceLE, Int.reduceEq, Int.reduceAdd, Int.reduceNeg, reduceIte, reduceCtorEq, Nat.reduceLT, implies_true]) fun S => ?_; simp only [a33, c33, go_sem, Nat.reduceEqDiff, Nat.reduceAdd, Nat.reduceLeDiff, Nat.reduceMul, Nat.reduceSub, Int.reduceLT, Int.reduceLE, Int.reduceEq, Int.reduceAdd, Int.reduceNeg, reduceIte, reduceCtorEq, Nat.reduceLT]
  rw [Run_if]
  simp only [go_sem, Nat.reduceEqDiff, Nat.reduceAdd, Nat.reduceLeDiff, Nat.reduceMul, Nat.reduceSub, Int.reduceLT, Int.reduceLE, Int.reduceEq, Int.reduceAdd, Int.reduceNeg, reduceIte, reduceCtorEq, Nat.reduceLT]
  split
  · rename_i h
    simp only [refPrg]
    grind
  · rename_i h
    have hlen : p.params.length ≤ 2 ∧ p.arrays.length ≤ 8 := by grind
    have happ0 : ∀ k, appO 9 1 16 (.slice (.own 9) []) (.slice k (p.params.map encS)) = some (.slice (.own 9) (p.params.map encS)) := fun k => appO_own (lens_S _) (by simp; omega) (by simp; omega)
    simp only [go_sem, Nat.reduceEqDiff, Nat.reduceAdd, Nat.reduceLeDiff, Nat.reduceMul, Nat.reduceSub, Int.reduceLT, Int.reduceLE, Int.reduceEq, Int.reduceAdd, Int.reduceNeg, reduceIte, reduceCtorEq, Nat.reduceLT, happ0]
    refine Run_range p.arrays.length [1, 26] [3] (fun k vs S' => vs = [.slice (.own 9) ((p.params ++ (p.arrays.take k).map (·.name)).map encS)] ∧ (∃ B, S' = ⟨encPrg p :: B, none⟩ :: S) ∧ (p.arrays.take k).all (arrOk p.params.length) = true) hp.al (by simp only [go_sem, Nat.reduceEqDiff, Nat.reduceAdd, Nat.reduceLeDiff, Nat.reduceMul, Nat.reduceSub, Int.reduceLT, Int.reduceLE, Int.reduceEq, Int.reduceAdd, Int.reduceNeg, reduceIte, reduceCtorEq, Nat.reduceLT]) (by simp only [go_sem, Nat.reduceEqDiff, Nat.reduceAdd, Nat.reduceLeDiff, Nat.reduceMul, Nat.reduceSub, Int.reduceLT, Int.reduceLE, Int.reduceEq, Int.reduceAdd, Int.reduceNeg, reduceIte, reduceCtorEq, Nat.reduceLT]) rfl rfl rfl rfl (by simp only [go_sem, Nat.reduceEqDiff, Nat.reduceAdd, Nat.reduceLeDiff, Nat.reduceMul, Nat.reduceSub, Int.reduceLT, Int.reduceLE, Int.reduceEq, Int.reduceAdd, Int.reduceNeg, reduceIte, reduceCtorEq, Nat.reduceLT]) ⟨by simp only [go_sem, Nat.reduceEqDiff, Nat.reduceAdd, Nat.reduceLeDiff, Nat.reduceMul, Nat.reduceSub, Int.reduceLT, Int.reduceLE, Int.reduceEq, Int.reduceAdd, Int.reduceNeg, reduceIte, reduceCtorEq, Nat.reduceLT, List.take_zero], ⟨_, rfl⟩, rfl⟩ ?_ ?_
    · rintro k F _ hk ⟨hv, ⟨B, rfl⟩, hok⟩ hi hkept
      simp only [go_sem, Nat.reduceEqDiff, Nat.reduceAdd, Nat.reduceLeDiff, Nat.reduceMul, Nat.reduceSub, Int.reduceLT, Int.reduceLE, Int.reduceEq, Int.reduceAdd, Int.reduceNeg, reduceIte, reduceCtorEq, Nat.reduceLT] at hkept hv
      obtain ⟨a, hak⟩ : ∃ a, p.arrays[k]? = some a := ⟨p.arrays[k], List.getElem?_eq_getElem hk⟩
      have ham := List.mem_of_getElem? hak
      have hao := hp.as a ham
      have hkl2 : (p.params ++ (p.arrays.take k).map (·.name)).length ≤ 10 := by simp; omega
      have happ : ∀ K, appO 9 1 16 (.slice (.own 9) ((p.params ++ (p.arrays.take k).map (·.name)).map encS)) (.slice K [[.str a.name]]) = some (.slice (.own 9) (((p.params ++ (p.arrays.take k).map (·.name)) ++ [a.name]).map encS)) := fun K => by
        rw [List.map_append (l₂ := [a.name])]; exact appO_own rfl (by rw [List.length_map]; simp only [List.length_singleton]; omega) (by rw [List.length_map]; simp only [List.length_singleton]; omega)
      simp only [go_sem, Nat.reduceEqDiff, Nat.reduceAdd, Nat.reduceLeDiff, Nat.reduceMul, Nat.reduceSub, Int.reduceLT, Int.reduceLE, Int.reduceEq, Int.reduceAdd, Int.reduceNeg, reduceIte, reduceCtorEq, Nat.reduceLT, hkept, hi, hv, iaO_map hak, happ]
      rw [Run_if]
      simp only [go_sem, Nat.reduceEqDiff, Nat.reduceAdd, Nat.reduceLeDiff, Nat.reduceMul, Nat.reduceSub, Int.reduceLT, Int.reduceLE, Int.reduceEq, Int.reduceAdd, Int.reduceNeg, reduceIte, reduceCtorEq, Nat.reduceLT]
      have hbad : arrOk p.params.length a = false → refPrg p = false := fun h => by
        have : p.arrays.all (arrOk p.params.length) = false := List.all_eq_false.2 ⟨a, ham, by simp [h]⟩
        simp only [refPrg, this, Bool.and_false, Bool.false_and]
      split
      · rename_i h3
        intro _
        exact (hbad (by simp only [arrOk]; grind)).symm
      · rename_i h3
        refine Run_all a.sizes (vOverL p.params.length) (fun S' => ∃ B, S' = ⟨encPrg p :: B, none⟩ :: S) [1, 3, 26, 28, 42] hao.l (by simp only [go_sem, Nat.reduceEqDiff, Nat.reduceAdd, Nat.reduceLeDiff, Nat.reduceMul, Nat.reduceSub, Int.reduceLT, Int.reduceLE, Int.reduceEq, Int.reduceAdd, Int.reduceNeg, reduceIte, reduceCtorEq, Nat.reduceLT, hkept, hi]) (by simp only [go_sem, Nat.reduceEqDiff, Nat.reduceAdd, Nat.reduceLeDiff, Nat.reduceMul, Nat.reduceSub, Int.reduceLT, Int.reduceLE, Int.reduceEq, Int.reduceAdd, Int.reduceNeg, reduceIte, reduceCtorEq, Nat.reduceLT, hkept, hi]) rfl rfl rfl (by simp only [go_sem, Nat.reduceEqDiff, Nat.reduceAdd, Nat.reduceLeDiff, Nat.reduceMul, Nat.reduceSub, Int.reduceLT, Int.reduceLE, Int.reduceEq, Int.reduceAdd, Int.reduceNeg, reduceIte, reduceCtorEq, Nat.reduceLT, hkept, hi]) ⟨_, rfl⟩ ?_ ?_
        · rintro k F2 _ x hx hmx ⟨B, rfl⟩ hi3 hkept3 hall
          simp only [go_sem, Nat.reduceEqDiff, Nat.reduceAdd, Nat.reduceLeDiff, Nat.reduceMul, Nat.reduceSub, Int.reduceLT, Int.reduceLE, Int.reduceEq, Int.reduceAdd, Int.reduceNeg, reduceIte, reduceCtorEq, Nat.reduceLT, hkept, hi] at hkept3 hall
          simp only [go_sem, Nat.reduceEqDiff, Nat.reduceAdd, Nat.reduceLeDiff, Nat.reduceMul, Nat.reduceSub, Int.reduceLT, Int.reduceLE, Int.reduceEq, Int.reduceAdd, Int.reduceNeg, reduceIte, reduceCtorEq, Nat.reduceLT, hkept3, hi3, iaO_map hx, (over_ref x _ (hao.s x hmx)).call, Run_if]
          cases hv2 : vOverL p.params.length x with
          | true => simp only [go_sem, Nat.reduceEqDiff, Nat.reduceAdd, Nat.reduceLeDiff, Nat.reduceMul, Nat.reduceSub, Int.reduceLT, Int.reduceLE, Int.reduceEq, Int.reduceAdd, Int.reduceNeg, reduceIte, reduceCtorEq, Nat.reduceLT]
          | false =>
            simp only [go_sem, Nat.reduceEqDiff, Nat.reduceAdd, Nat.reduceLeDiff, Nat.reduceMul, Nat.reduceSub, Int.reduceLT, Int.reduceLE, Int.reduceEq, Int.reduceAdd, Int.reduceNeg, reduceIte, reduceCtorEq, Nat.reduceLT]
            intros
            exact (hbad (by simp only [arrOk, hall hv2, Bool.and_false])).symm
        · rintro F2 _ hall ⟨B2, rfl⟩ hkept3
          simp only [go_sem, Nat.reduceEqDiff, Nat.reduceAdd, Nat.reduceLeDiff, Nat.reduceMul, Nat.reduceSub, Int.reduceLT, Int.reduceLE, Int.reduceEq, Int.reduceAdd, Int.reduceNeg, reduceIte, reduceCtorEq, Nat.reduceLT, hkept] at hkept3
          simp only [go_sem, Nat.reduceEqDiff, Nat.reduceAdd, Nat.reduceLeDiff, Nat.reduceMul, Nat.reduceSub, Int.reduceLT, Int.reduceLE, Int.reduceEq, Int.reduceAdd, Int.reduceNeg, reduceIte, reduceCtorEq, Nat.reduceLT, hkept3]
          rw [take_snoc hak]
          refine ⟨by rw [List.map_append (l₂ := [a])]; rfl, ?_⟩
          rw [List.all_append, hok, Bool.true_and, List.all_cons, List.all_nil, Bool.and_true]
          simp only [arrOk, hall, Bool.and_true, decide_eq_true_eq]
          omega
    · rintro F _ ⟨hv, ⟨B, rfl⟩, hok⟩ hkept
      simp only [go_sem, Nat.reduceEqDiff, Nat.reduceAdd, Nat.reduceLeDiff, Nat.reduceMul, Nat.reduceSub, Int.reduceLT, Int.reduceLE, Int.reduceEq, Int.reduceAdd, Int.reduceNeg, reduceIte, reduceCtorEq, Nat.reduceLT] at hkept hv
      rw [List.take_length] at hok hv
      have hall : p.params ++ p.arrays.map (·.name) = allNames p := rfl
      rw [hall] at hv
      have hnl : (allNames p).length ≤ 10 := by simp [allNames]; omega
      simp only [go_sem, Nat.reduceEqDiff, Nat.reduceAdd, Nat.reduceLeDiff, Nat.reduceMul, Nat.reduceSub, Int.reduceLT, Int.reduceLE, Int.reduceEq, Int.reduceAdd, Int.reduceNeg, reduceIte, reduceCtorEq, Nat.reduceLT, hkept, hv]
      refine Run_range (allNames p).length [1, 3, 56] [] (fun k vs S' => (∃ B, S' = ⟨encPrg p :: B, none⟩ :: S) ∧ hPar [] ((allNames p).take k) = true) (by omega) (by simp only [go_sem, Nat.reduceEqDiff, Nat.reduceAdd, Nat.reduceLeDiff, Nat.reduceMul, Nat.reduceSub, Int.reduceLT, Int.reduceLE, Int.reduceEq, Int.reduceAdd, Int.reduceNeg, reduceIte, reduceCtorEq, Nat.reduceLT]) (by simp only [go_sem, Nat.reduceEqDiff, Nat.reduceAdd, Nat.reduceLeDiff, Nat.reduceMul, Nat.reduceSub, Int.reduceLT, Int.reduceLE, Int.reduceEq, Int.reduceAdd, Int.reduceNeg, reduceIte, reduceCtorEq, Nat.reduceLT]) rfl rfl rfl rfl (by simp only [go_sem, Nat.reduceEqDiff, Nat.reduceAdd, Nat.reduceLeDiff, Nat.reduceMul, Nat.reduceSub, Int.reduceLT, Int.reduceLE, Int.reduceEq, Int.reduceAdd, Int.reduceNeg, reduceIte, reduceCtorEq, Nat.reduceLT, hkept, hv]) ⟨⟨_, rfl⟩, rfl⟩ ?_ ?_
      · rintro k F2 _ hk ⟨⟨B, rfl⟩, hpar⟩ hi2 hkept2
        simp only [go_sem, Nat.reduceEqDiff, Nat.reduceAdd, Nat.reduceLeDiff, Nat.reduceMul, Nat.reduceSub, Int.reduceLT, Int.reduceLE, Int.reduceEq, Int.reduceAdd, Int.reduceNeg, reduceIte, reduceCtorEq, Nat.reduceLT, hkept, hv] at hkept2
        obtain ⟨s, hsk⟩ : ∃ s, (allNames p)[k]? = some s := ⟨(allNames p)[k], List.getElem?_eq_getElem hk⟩
        have hcut := cutO_hi (n := 1) (k := k) (kk := .i64) (xs := (allNames p).map encS) (lens_S _) (by simp; omega)
        rw [← List.map_take] at hcut
        simp only [go_sem, Nat.reduceEqDiff, Nat.reduceAdd, Nat.reduceLeDiff, Nat.reduceMul, Nat.reduceSub, Int.reduceLT, Int.reduceLE, Int.reduceEq, Int.reduceAdd, Int.reduceNeg, reduceIte, reduceCtorEq, Nat.reduceLT, hkept2, hi2, iaO_map hsk, (name_ref s).call, hcut, (is_shut ((allNames p).take k) s (le_lim (by simp; omega))).callG, Run_if]
        split
        · rename_i hbad
          intro _
          have : hPar [] (allNames p) = false := by
            rw [cut_at hsk, hPar_app, hpar, Bool.true_and, List.nil_append, hPar]
            simp only [isNew]
            grind
          simp only [refPrg, this, Bool.and_false, Bool.false_and]
        · rename_i hgood
          rw [take_snoc hsk, hPar_app, hpar, Bool.true_and, List.nil_append, hPar, hPar]
          simp only [isNew]
          grind
      · rintro F2 _ ⟨⟨B, rfl⟩, hpar⟩ hkept2
        simp only [go_sem, Nat.reduceEqDiff, Nat.reduceAdd, Nat.reduceLeDiff, Nat.reduceMul, Nat.reduceSub, Int.reduceLT, Int.reduceLE, Int.reduceEq, Int.reduceAdd, Int.reduceNeg, reduceIte, reduceCtorEq, Nat.reduceLT, hkept, hv] at hkept2
        rw [List.take_length] at hpar
        have hb := ref_body (l := S.length) (ci := blen B + 1) hp.bl (fun s hs => ref_all hp s (hp.bs s hs) (hm s hs)) p.params p.pn p.bn 0 0 (⟨encPrg p :: (B ++ [encChk p 0]), none⟩ :: S) (by omega) hp.pz (by simp only [go_sem, Nat.reduceEqDiff, Nat.reduceAdd, Nat.reduceLeDiff, Nat.reduceMul, Nat.reduceSub, Int.reduceLT, Int.reduceLE, Int.reduceEq, Int.reduceAdd, Int.reduceNeg, reduceIte, reduceCtorEq, Nat.reduceLT]) (by omega) (by omega) (by omega) (by omega)
        simp only [go_sem, Nat.reduceEqDiff, Nat.reduceAdd, Nat.reduceLeDiff, Nat.reduceMul, Nat.reduceSub, Int.reduceLT, Int.reduceLE, Int.reduceEq, Int.reduceAdd, Int.reduceNeg, reduceIte, reduceCtorEq, Nat.reduceLT] at hb
        simp only [go_sem, Nat.reduceEqDiff, Nat.reduceAdd, Nat.reduceLeDiff, Nat.reduceMul, Nat.reduceSub, Int.reduceLT, Int.reduceLE, Int.reduceEq, Int.reduceAdd, Int.reduceNeg, reduceIte, reduceCtorEq, Nat.reduceLT, hkept2, chk_fold, CallP hb, refPrg, hpar, hok]
        grind
end Wp
end AM
end Go.Proofs.Ytimfbnojmdnlnaa
