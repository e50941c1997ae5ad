/- Bodies, as the program checks them. -/
import Derived.Test.YtimfbnojmdnlnaaKSbG
set_option linter.unusedVariables false
set_option linter.unusedSimpArgs false
set_option maxRecDepth 100000
namespace Go.Proofs.Ytimfbnojmdnlnaa
namespace AM
namespace Wp
def StmSpec (p : Prg) (l ci : Nat) (s : Stm) : Prop := ∀ (names : List ByteArray) (nb : Bool) (st : Int) (S : St), (names.length : Int) - p.params.length ≤ 10 → (nb = true → names = []) → getBox S l ci = some (encChk p st) → 0 ≤ st → st ≤ 256 →
  (s.kind = 1 → CallIs theEnv (.fn 184) [.agg (encStm s), .ptr l ci 0, .slice (nk nb) (names.map encS)] S (outIf (chkStm p s names st).1) (setBox S l ci (encChk p (chkStm p s names st).2))) ∧
  (s.kind = 2 → CallIs theEnv (.fn 193) [.agg (encStm s), .ptr l ci 0, .slice (nk nb) (names.map encS)] S (outIf (chkStm p s names st).1) (setBox S l ci (encChk p (chkStm p s names st).2))) ∧
  (s.kind = 3 → CallIs theEnv (.fn 195) [.agg (encStm s), .ptr l ci 0, .slice (nk nb) (names.map encS)] S (outIf (chkStm p s names st).1) (setBox S l ci (encChk p (chkStm p s names st).2)))
def BodySpec (p : Prg) (l ci : Nat) (ss : List Stm) : Prop := ∀ (names : List ByteArray) (nb bn : Bool) (st : Int) (S : St), (names.length : Int) - p.params.length ≤ 11 → (nb = true → names = []) → getBox S l ci = some (encChk p st) → 0 ≤ st → st ≤ 256 →
  CallIs theEnv (.fn 31) [.ptr l ci 0, .slice (nk bn) (ss.map encStm), .slice (nk nb) (names.map encS)] S (outIf (chkBody p ss names st).1) (setBox S l ci (encChk p (chkBody p ss names st).2))
theorem m_for : theEnv.meth 174 "headland/lang.check" = some 184 := by simp [theEnv, theMeth]
theorem m_test : theEnv.meth 175 "headland/lang.check" = some 193 := by simp [theEnv, theMeth]
theorem m_assign : theEnv.meth 176 "headland/lang.check" = some 195 := by simp [theEnv, theMeth]
theorem body_ok {p : Prg} {l ci : Nat} (hp : OkPrg p) (hpp : p.params.length ≤ 1000) {ss : List Stm} (hl : ss.length ≤ LIM) (hs : ∀ s ∈ ss, StmSpec p l ci s) : BodySpec p l ci ss := by
  intro names nb bn st S hn hnb hb h0 h256
  refine CallIs.fn rfl rfl rfl ?_
  have g1 := fun T => getBox_up (T := T) hb
  have g3 : ∀ v, getBox (setBox S l ci v) l ci = some v := fun v => getBox_set hb
  have g5 := fun T v => getBox_up (T := T) (g3 v)
  have g7 : ∀ T v w, setBox (T :: setBox S l ci v) l ci w = T :: setBox S l ci w := fun T v w => by rw [setBox_up (g3 v), setBox_setBox]
  have hself := setBox_self hb
  have hw : IntKind.i64.wrap ((names.length : Int) - (p.params.length : Int)) = (names.length : Int) - (p.params.length : Int) := wrap64 (by omega) (by omega)
  simp only [a31, c31, go_sem, Nat.reduceEqDiff, Nat.reduceAdd, Nat.reduceLeDiff, Nat.reduceMul, Nat.reduceSub, Int.reduceLT, Int.reduceLE, Int.reduceEq, Int.reduceAdd, Int.reduceNeg, reduceIte, reduceCtorEq, Nat.reduceLT, g1, hw, (need_ok _).call]
  have hdeep : deep p ss names = (decide (ss.length = 0) || decide ((names.length : Int) - (p.params.length : Int) ≤ 10)) := by simp [deep]
  unfold chkBody
  rw [← hdeep]
  split
  · rename_i hd
    refine Run_range ss.length [0, 2, 24] [] (fun k vs S' => ∃ B st', S' = ⟨B, none⟩ :: setBox S l ci (encChk p st') ∧ chkList p (ss.take k) names st = (true, st') ∧ 0 ≤ st' ∧ st' ≤ 256) hl (by simp only [go_sem, Nat.reduceEqDiff, Nat.reduceAdd, Nat.reduceLeDiff, Nat.reduceMul, Nat.reduceSub, Int.reduceLT, Int.reduceLE, Int.reduceEq, Int.reduceAdd, Int.reduceNeg, reduceIte, reduceCtorEq, Nat.reduceLT]) (by simp only [go_sem, Nat.reduceEqDiff, Nat.reduceAdd, Nat.reduceLeDiff, Nat.reduceMul, Nat.reduceSub, Int.reduceLT, Int.reduceLE, Int.reduceEq, Int.reduceAdd, Int.reduceNeg, reduceIte, reduceCtorEq, Nat.reduceLT]) rfl rfl rfl rfl (by simp only [go_sem, Nat.reduceEqDiff, Nat.reduceAdd, Nat.reduceLeDiff, Nat.reduceMul, Nat.reduceSub, Int.reduceLT, Int.reduceLE, Int.reduceEq, Int.reduceAdd, Int.reduceNeg, reduceIte, reduceCtorEq, Nat.reduceLT]) ⟨_, st, by rw [hself], by rw [List.take_zero, chkList], h0, h256⟩ ?_ ?_
    · rintro k F _ hk ⟨B, st', rfl, hc, h0', h256'⟩ hi hkept
      simp only [go_sem, Nat.reduceEqDiff, Nat.reduceAdd, Nat.reduceLeDiff, Nat.reduceMul, Nat.reduceSub, Int.reduceLT, Int.reduceLE, Int.reduceEq, Int.reduceAdd, Int.reduceNeg, reduceIte, reduceCtorEq, Nat.reduceLT] at hkept
      obtain ⟨s, hsk⟩ : ∃ s, ss[k]? = some s := ⟨ss[k], List.getElem?_eq_getElem hk⟩
      have hm := List.mem_of_getElem? hsk
      have hw2 : IntKind.i64.wrap (st' + 1) = st' + 1 := wrap64 (by omega) (by omega)
      have hn10 : (names.length : Int) - p.params.length ≤ 10 := by
        rw [hdeep] at hd
        have : ss.length ≠ 0 := by omega
        simpa [this] using hd
      have hall : chkList p ss names st = chkList p (s :: ss.drop (k + 1)) names st' := by
        have : ss = ss.take k ++ (s :: ss.drop (k + 1)) := by
          have h1 := (List.getElem?_eq_some_iff.1 hsk).2
          rw [← h1, List.getElem_cons_drop, List.take_append_drop]
        conv => lhs; rw [this]
        rw [chkList_app (by rw [hc]), hc]
      simp only [go_sem, Nat.reduceEqDiff, Nat.reduceAdd, Nat.reduceLeDiff, Nat.reduceMul, Nat.reduceSub, Int.reduceLT, Int.reduceLE, Int.reduceEq, Int.reduceAdd, Int.reduceNeg, reduceIte, reduceCtorEq, Nat.reduceLT, hkept, hi, iaO_map hsk, g5, g7, hw2, (need_ok _).call]
      have htake : chkList p (ss.take (k + 1)) names st = chkList p [s] names st' := by
        rw [take_snoc hsk, chkList_app (by rw [hc]), hc]
      rw [hall, chkList_cons]
      rw [chkList_cons] at htake
      split
      · rename_i hle
        rw [if_pos hle] at htake
        have hsp := hs s hm names nb (st' + 1) (⟨B ++ [encStm s], none⟩ :: setBox S l ci (encChk p (st' + 1))) hn10 hnb (g5 _ _) (by omega) hle
        simp only [g7] at hsp
        have hk3 : (∃ t f, Sp theEnv 67 [.agg (encStm s)] (.ifc t (.agg (encStm s))) ∧ theEnv.meth t "headland/lang.check" = some f ∧ CallIs theEnv (.fn f) [.agg (encStm s), .ptr l ci 0, .slice (nk nb) (names.map encS)] (⟨B ++ [encStm s], none⟩ :: setBox S l ci (encChk p (st' + 1))) (outIf (chkStm p s names (st' + 1)).1) (⟨B ++ [encStm s], none⟩ :: setBox S l ci (encChk p (chkStm p s names (st' + 1)).2))) ∨
            (SpC theEnv 67 [.agg (encStm s)] false ∧ chkStm p s names (st' + 1) = (false, st' + 1)) := by
          by_cases h1 : s.kind = 1
          · exact .inl ⟨_, _, kind_for s h1, m_for, hsp.1 h1⟩
          by_cases h2 : s.kind = 2
          · exact .inl ⟨_, _, kind_if s h2, m_test, hsp.2.1 h2⟩
          by_cases h3 : s.kind = 3
          · exact .inl ⟨_, _, kind_asg s h3, m_assign, hsp.2.2 h3⟩
          exact .inr ⟨kind_bad s h1 h2 h3, chkStm_bad h1 h2 h3⟩
        rcases hk3 with ⟨t, f, hsk1, hmt, hcall⟩ | ⟨hbad, hst⟩
        · simp only [go_sem, Nat.reduceEqDiff, Nat.reduceAdd, Nat.reduceLeDiff, Nat.reduceMul, Nat.reduceSub, Int.reduceLT, Int.reduceLE, Int.reduceEq, Int.reduceAdd, Int.reduceNeg, reduceIte, reduceCtorEq, Nat.reduceLT, hsk1.call, hkept, InvP (xs := [.ptr l ci 0, .slice (nk nb) (names.map encS)]) hmt hcall (by simp only [go_sem, Nat.reduceEqDiff, Nat.reduceAdd, Nat.reduceLeDiff, Nat.reduceMul, Nat.reduceSub, Int.reduceLT, Int.reduceLE, Int.reduceEq, Int.reduceAdd, Int.reduceNeg, reduceIte, reduceCtorEq, Nat.reduceLT]) (by simp only [go_sem, Nat.reduceEqDiff, Nat.reduceAdd, Nat.reduceLeDiff, Nat.reduceMul, Nat.reduceSub, Int.reduceLT, Int.reduceLE, Int.reduceEq, Int.reduceAdd, Int.reduceNeg, reduceIte, reduceCtorEq, Nat.reduceLT])]
          split
          · rename_i hr
            rw [if_pos hr, chkList] at htake
            have hbd := chk_bound s names (st' + 1) hr
            exact ⟨_, _, ⟨rfl, rfl⟩, htake, by omega, hbd.2 hle⟩
          · rename_i hr
            exact ⟨rfl, rfl⟩
        · simp only [go_sem, Nat.reduceEqDiff, Nat.reduceAdd, Nat.reduceLeDiff, Nat.reduceMul, Nat.reduceSub, Int.reduceLT, Int.reduceLE, Int.reduceEq, Int.reduceAdd, Int.reduceNeg, reduceIte, reduceCtorEq, Nat.reduceLT, hbad.call, hst]
      · simp only [go_sem, Nat.reduceEqDiff, Nat.reduceAdd, Nat.reduceLeDiff, Nat.reduceMul, Nat.reduceSub, Int.reduceLT, Int.reduceLE, Int.reduceEq, Int.reduceAdd, Int.reduceNeg, reduceIte, reduceCtorEq, Nat.reduceLT]
    · rintro F _ ⟨B, st', rfl, hc, _⟩ hkept
      rw [List.take_length] at hc
      simp only [go_sem, Nat.reduceEqDiff, Nat.reduceAdd, Nat.reduceLeDiff, Nat.reduceMul, Nat.reduceSub, Int.reduceLT, Int.reduceLE, Int.reduceEq, Int.reduceAdd, Int.reduceNeg, reduceIte, reduceCtorEq, Nat.reduceLT, hc, if_true, hd]
  · simp only [go_sem, Nat.reduceEqDiff, Nat.reduceAdd, Nat.reduceLeDiff, Nat.reduceMul, Nat.reduceSub, Int.reduceLT, Int.reduceLE, Int.reduceEq, Int.reduceAdd, Int.reduceNeg, reduceIte, reduceCtorEq, Nat.reduceLT, hself]
theorem stm_ok {p : Prg} {l ci : Nat} (hp : OkPrg p) (hpp : p.params.length ≤ 1000) : ∀ s, OkStm s → StmSpec p l ci s := by
  refine Stm.ind fun s ihb ihe hs => ?_
  have hb := body_ok hp hpp hs.bn' fun t ht => ihb t ht (hs.body' t ht)
  have he := body_ok hp hpp hs.en' fun t ht => ihe t ht (hs.els' t ht)
  intro names nb st S hn hnb hg h0 h256
  have g1 := fun T => getBox_up (T := T) hg
  have g2 := fun T v => setBox_up (T := T) (v := v) hg
  have g3 : ∀ v, getBox (setBox S l ci v) l ci = some v := fun v => getBox_set hg
  have g5 := fun T v => getBox_up (T := T) (g3 v)
  have g7 : ∀ T v w, setBox (T :: setBox S l ci v) l ci w = T :: setBox S l ci w := fun T v w => by rw [setBox_up (g3 v), setBox_setBox]
  refine ⟨fun hk => ?_, fun hk => ?_, fun hk => ?_⟩
  · refine for_ok hp hs hg (by omega) hnb (fun T => ?_) hk
    have := hb (names ++ [s.name]) false s.bn st (T :: S) (by simp; omega) (by simp) (g1 T) h0 h256
    rw [g2] at this
    exact this
  · refine if_ok hs hg (fun T => ?_) (fun hB T => ?_) hk
    · have := hb names nb s.bn st (T :: S) (by omega) hnb (g1 T) h0 h256
      rw [g2] at this
      exact this
    · have hbd := body_bound hB
      have := he names nb s.en (chkBody p s.body names st).2 (T :: setBox S l ci (encChk p (chkBody p s.body names st).2)) (by omega) hnb (g5 T _) (by omega) (hbd.2 h256)
      rw [g7] at this
      exact this
  · have := asg_ok (nb := nb) (names := names) hs hg
    rw [chkStm_asg hk]
    simp only [setBox_self hg]
    exact this
end Wp
end AM
end Go.Proofs.Ytimfbnojmdnlnaa
