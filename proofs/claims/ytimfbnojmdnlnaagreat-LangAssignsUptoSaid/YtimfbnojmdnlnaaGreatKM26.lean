/- Statements, as the program checks them; Bodies, as the program checks them; Check, whole. -/
import Derived.Test.YtimfbnojmdnlnaaGreatKM23
set_option linter.unusedVariables false
set_option linter.unusedSimpArgs false
set_option maxRecDepth 100000
section
namespace Go.Proofs.YtimfbnojmdnlnaaGreat
namespace AM
namespace Wp
def lowOne (b : Bound) : Bool :=
 match b.parts with
 | [q] => (match q.rows with | [r] => decide (r.div = 1) | _ => false)
 | _ => false
def arrNew (p : Prg) (s : ByteArray) : Bool := !(p.arrays.any fun a => decide (a.name = s))
def cFor (p : Prg) (names : List ByteArray) (s : Stm) : Bool :=
 (vName s.name && isNew names s.name && arrNew p s.name) && vBound names.length s.low && vBound names.length s.high && (decide (1 ≤ s.step) && decide (s.step ≤ 64) && decide (0 ≤ s.mark) && decide (s.mark ≤ 2)) &&
  (decide (s.step = 1) || lowOne s.low) && (zSet s.test && zRef s.target && zExp s.value && decide ((s.els.length : Int) = 0))
def cIf (names : List ByteArray) (s : Stm) : Bool := (zLoop s && zRef s.target && zExp s.value) && (vSet s.test && decide (s.test.dim = (names.length : Int)))
def cAsg (p : Prg) (names : List ByteArray) (s : Stm) : Bool := (zLoop s && zSet s.test && decide ((s.body.length : Int) = 0) && decide ((s.els.length : Int) = 0)) && vCell p names.length s.target && (chkNode p names.length s.value 0).1
def deep (p : Prg) (l : List Stm) (names : List ByteArray) : Bool := decide ((l.length : Int) = 0) || decide ((names.length : Int) - (p.params.length : Int) ≤ 10)
mutual
def chkStm (p : Prg) : Stm → List ByteArray → Int → Bool × Int
 | s@⟨kind, name, _, _, _, _, _, _, _, _, body, _, els⟩, names, st =>
  if kind = 1 then (if cFor p names s = true then (if deep p body (names ++ [name]) = true then chkList p body (names ++ [name]) st else (false, st)) else (false, st))
  else if kind = 2 then (if cIf names s = true then (if deep p body names = true then
    (if (chkList p body names st).1 = true then (if deep p els names = true then chkList p els names (chkList p body names st).2 else (false, (chkList p body names st).2)) else (false, (chkList p body names st).2)) else (false, st)) else (false, st))
  else if kind = 3 then (cAsg p names s, st)
  else (false, st)
def chkList (p : Prg) : List Stm → List ByteArray → Int → Bool × Int
 | [], _, st => (true, st)
 | s :: l, names, st => if st + 1 ≤ 256 then (if (chkStm p s names (st + 1)).1 = true then chkList p l names (chkStm p s names (st + 1)).2 else (false, (chkStm p s names (st + 1)).2)) else (false, st + 1)
end
def chkBody (p : Prg) (l : List Stm) (names : List ByteArray) (st : Int) : Bool × Int := if deep p l names = true then chkList p l names st else (false, st)
section
variable {p : Prg} {s : Stm} {names : List ByteArray} {st : Int} {xs ys : List Stm}
theorem chkStm_for (h : s.kind = 1) : chkStm p s names st = if cFor p names s = true then chkBody p s.body (names ++ [s.name]) st else (false, st) := by
 cases s; simp only at h; rw [chkStm]; simp only [h, if_true, chkBody]
theorem chkStm_if (h : s.kind = 2) : chkStm p s names st = if cIf names s = true then (if (chkBody p s.body names st).1 = true then chkBody p s.els names (chkBody p s.body names st).2 else (false, (chkBody p s.body names st).2)) else (false, st) := by
 cases s; simp only at h; rw [chkStm]
 have h1 : ¬ (2 : Int) = 1 := by decide
 simp only [h, h1, if_true, if_false, chkBody]
 split
 ·split <;> simp
 ·rfl
theorem chkStm_asg (h : s.kind = 3) : chkStm p s names st = (cAsg p names s, st) := by
 cases s; simp only at h; rw [chkStm]
 have h1 : ¬ (3 : Int) = 1 := by decide
 have h2 : ¬ (3 : Int) = 2 := by decide
 simp only [h, h1, h2, if_true, if_false]
theorem chkStm_bad (h1 : s.kind ≠ 1) (h2 : s.kind ≠ 2) (h3 : s.kind ≠ 3) : chkStm p s names st = (false, st) := by
 cases s; simp only at h1 h2 h3; rw [chkStm]
 simp only [h1, h2, h3, if_false]
theorem chkList_cons : chkList p (s :: xs) names st = if st + 1 ≤ 256 then (if (chkStm p s names (st + 1)).1 = true then chkList p xs names (chkStm p s names (st + 1)).2 else (false, (chkStm p s names (st + 1)).2)) else (false, st + 1) := by rw [chkList]
theorem chkList_app : ∀ {xs : List Stm} {st : Int}, (chkList p xs names st).1 = true → chkList p (xs ++ ys) names st = chkList p ys names (chkList p xs names st).2
 | [], st, h => by rw [chkList]; rfl
 | s :: xs, st, h => by
  rw [List.cons_append, chkList_cons, chkList_cons]
  rw [chkList_cons] at h
  split
  ·rename_i h1
   rw [if_pos h1] at h
   split
   ·rename_i h2
    rw [if_pos h2] at h
    exact chkList_app h
   ·rename_i h2
    rw [if_neg h2] at h; cases h
  ·rename_i h1
   rw [if_neg h1] at h; cases h
end
theorem chk_bound {p : Prg} : ∀ (s : Stm) (names : List ByteArray) (st : Int), (chkStm p s names st).1 = true → st ≤ (chkStm p s names st).2 ∧ (st ≤ 256 → (chkStm p s names st).2 ≤ 256) := by
 have list : ∀ (l : List Stm), (∀ s ∈ l, ∀ (names : List ByteArray) (st : Int), (chkStm p s names st).1 = true → st ≤ (chkStm p s names st).2 ∧ (st ≤ 256 → (chkStm p s names st).2 ≤ 256)) →
   ∀ (names : List ByteArray) (st : Int), (chkList p l names st).1 = true → st ≤ (chkList p l names st).2 ∧ (st ≤ 256 → (chkList p l names st).2 ≤ 256) := by
  intro l
  induction l with
  | nil => intro _ names st _; rw [chkList]; simp
  | cons s l ih =>
   intro h names st hr
   rw [chkList_cons] at hr ⊢
   split at hr
   ·rename_i h1
    rw [if_pos h1]
    split at hr
    ·rename_i h2
     rw [if_pos h2]
     have a := h s List.mem_cons_self names (st + 1) h2
     have b := ih (fun s hs => h s (List.mem_cons_of_mem _ hs)) names _ hr
     omega
    ·cases hr
   ·cases hr
 have body : ∀ (l : List Stm), (∀ s ∈ l, ∀ (names : List ByteArray) (st : Int), (chkStm p s names st).1 = true → st ≤ (chkStm p s names st).2 ∧ (st ≤ 256 → (chkStm p s names st).2 ≤ 256)) →
   ∀ (names : List ByteArray) (st : Int), (chkBody p l names st).1 = true → st ≤ (chkBody p l names st).2 ∧ (st ≤ 256 → (chkBody p l names st).2 ≤ 256) := by
  intro l h names st hr
  unfold chkBody at hr ⊢
  split at hr
  ·rename_i h1; rw [if_pos h1]; exact list l h names st hr
  ·cases hr
 refine Stm.ind fun s ihb ihe names st hr => ?_
 by_cases h1 : s.kind = 1
 ·rw [chkStm_for h1] at hr ⊢
  split at hr
  ·rename_i h2; rw [if_pos h2]; exact body _ ihb _ _ hr
  ·cases hr
 by_cases h2 : s.kind = 2
 ·rw [chkStm_if h2] at hr ⊢
  split at hr
  ·rename_i h3
   rw [if_pos h3]
   split at hr
   ·rename_i h4
    rw [if_pos h4]
    have a := body _ ihb _ _ h4
    have b := body _ ihe _ _ hr
    omega
   ·cases hr
  ·cases hr
 by_cases h3 : s.kind = 3
 ·rw [chkStm_asg h3]; simp
 ·rw [chkStm_bad h1 h2 h3] at hr; cases hr
theorem list_bound {p : Prg} {names : List ByteArray} : ∀ {l : List Stm} {st : Int}, (chkList p l names st).1 = true → st ≤ (chkList p l names st).2 ∧ (st ≤ 256 → (chkList p l names st).2 ≤ 256)
 | [], st, _ => by rw [chkList]; simp
 | s :: l, st, hr => by
  rw [chkList_cons] at hr ⊢
  split at hr
  ·rename_i h1
   rw [if_pos h1]
   split at hr
   ·rename_i h2
    rw [if_pos h2]
    have a := chk_bound s names (st + 1) h2
    have b := list_bound hr
    omega
   ·cases hr
  ·cases hr
theorem body_bound {p : Prg} {names : List ByteArray} {l : List Stm} {st : Int} (hr : (chkBody p l names st).1 = true) : st ≤ (chkBody p l names st).2 ∧ (st ≤ 256 → (chkBody p l names st).2 ≤ 256) := by
 unfold chkBody at hr ⊢
 split at hr
 ·rename_i h1; rw [if_pos h1]; exact list_bound hr
 ·cases hr
theorem kind_for (s : Stm) (h : s.kind = 1) : Sp theEnv 114 [.agg (encStm s)] (.ifc 222 (.agg (encStm s))) := by
 refine Sp.fn rfl rfl rfl (by simp only [go_sem, Nat.reduceEqDiff, Nat.reduceAdd, Nat.reduceLeDiff, Nat.reduceMul, Nat.reduceSub, Int.reduceLT, Int.reduceLE, Int.reduceEq, Int.reduceAdd, Int.reduceNeg, reduceIte, reduceCtorEq, Nat.reduceLT]) (by simp only [go_sem, Nat.reduceEqDiff, Nat.reduceAdd, Nat.reduceLeDiff, Nat.reduceMul, Nat.reduceSub, Int.reduceLT, Int.reduceLE, Int.reduceEq, Int.reduceAdd, Int.reduceNeg, reduceIte, reduceCtorEq, Nat.reduceLT, implies_true]) fun S => ?_; simp only [a114, c114, go_sem, Nat.reduceEqDiff, Nat.reduceAdd, Nat.reduceLeDiff, Nat.reduceMul, Nat.reduceSub, Int.reduceLT, Int.reduceLE, Int.reduceEq, Int.reduceAdd, Int.reduceNeg, reduceIte, reduceCtorEq, Nat.reduceLT]
 simp only [go_sem, Nat.reduceEqDiff, Nat.reduceAdd, Nat.reduceLeDiff, Nat.reduceMul, Nat.reduceSub, Int.reduceLT, Int.reduceLE, Int.reduceEq, Int.reduceAdd, Int.reduceNeg, reduceIte, reduceCtorEq, Nat.reduceLT, h]
theorem kind_if (s : Stm) (h : s.kind = 2) : Sp theEnv 114 [.agg (encStm s)] (.ifc 223 (.agg (encStm s))) := by
 refine Sp.fn rfl rfl rfl (by simp only [go_sem, Nat.reduceEqDiff, Nat.reduceAdd, Nat.reduceLeDiff, Nat.reduceMul, Nat.reduceSub, Int.reduceLT, Int.reduceLE, Int.reduceEq, Int.reduceAdd, Int.reduceNeg, reduceIte, reduceCtorEq, Nat.reduceLT]) (by simp only [go_sem, Nat.reduceEqDiff, Nat.reduceAdd, Nat.reduceLeDiff, Nat.reduceMul, Nat.reduceSub, Int.reduceLT, Int.reduceLE, Int.reduceEq, Int.reduceAdd, Int.reduceNeg, reduceIte, reduceCtorEq, Nat.reduceLT, implies_true]) fun S => ?_; simp only [a114, c114, go_sem, Nat.reduceEqDiff, Nat.reduceAdd, Nat.reduceLeDiff, Nat.reduceMul, Nat.reduceSub, Int.reduceLT, Int.reduceLE, Int.reduceEq, Int.reduceAdd, Int.reduceNeg, reduceIte, reduceCtorEq, Nat.reduceLT]
 simp only [go_sem, Nat.reduceEqDiff, Nat.reduceAdd, Nat.reduceLeDiff, Nat.reduceMul, Nat.reduceSub, Int.reduceLT, Int.reduceLE, Int.reduceEq, Int.reduceAdd, Int.reduceNeg, reduceIte, reduceCtorEq, Nat.reduceLT, h]
theorem kind_asg (s : Stm) (h : s.kind = 3) : Sp theEnv 114 [.agg (encStm s)] (.ifc 224 (.agg (encStm s))) := by
 refine Sp.fn rfl rfl rfl (by simp only [go_sem, Nat.reduceEqDiff, Nat.reduceAdd, Nat.reduceLeDiff, Nat.reduceMul, Nat.reduceSub, Int.reduceLT, Int.reduceLE, Int.reduceEq, Int.reduceAdd, Int.reduceNeg, reduceIte, reduceCtorEq, Nat.reduceLT]) (by simp only [go_sem, Nat.reduceEqDiff, Nat.reduceAdd, Nat.reduceLeDiff, Nat.reduceMul, Nat.reduceSub, Int.reduceLT, Int.reduceLE, Int.reduceEq, Int.reduceAdd, Int.reduceNeg, reduceIte, reduceCtorEq, Nat.reduceLT, implies_true]) fun S => ?_; simp only [a114, c114, go_sem, Nat.reduceEqDiff, Nat.reduceAdd, Nat.reduceLeDiff, Nat.reduceMul, Nat.reduceSub, Int.reduceLT, Int.reduceLE, Int.reduceEq, Int.reduceAdd, Int.reduceNeg, reduceIte, reduceCtorEq, Nat.reduceLT]
 simp only [go_sem, Nat.reduceEqDiff, Nat.reduceAdd, Nat.reduceLeDiff, Nat.reduceMul, Nat.reduceSub, Int.reduceLT, Int.reduceLE, Int.reduceEq, Int.reduceAdd, Int.reduceNeg, reduceIte, reduceCtorEq, Nat.reduceLT, h]
theorem kind_bad (s : Stm) (h1 : s.kind ≠ 1) (h2 : s.kind ≠ 2) (h3 : s.kind ≠ 3) : SpC theEnv 114 [.agg (encStm s)] false := by
 refine SpC.fn rfl rfl rfl (by simp only [go_sem, Nat.reduceEqDiff, Nat.reduceAdd, Nat.reduceLeDiff, Nat.reduceMul, Nat.reduceSub, Int.reduceLT, Int.reduceLE, Int.reduceEq, Int.reduceAdd, Int.reduceNeg, reduceIte, reduceCtorEq, Nat.reduceLT]) fun S => ?_
 simp only [a114, c114, go_sem, Nat.reduceEqDiff, Nat.reduceAdd, Nat.reduceLeDiff, Nat.reduceMul, Nat.reduceSub, Int.reduceLT, Int.reduceLE, Int.reduceEq, Int.reduceAdd, Int.reduceNeg, reduceIte, reduceCtorEq, Nat.reduceLT, h1, h2, h3, stop]
theorem asg_ok {p : Prg} {st : Int} {s : Stm} {nb : Bool} {names : List ByteArray} {S : St} {l ci : Nat} (hs : OkStm s) (hb : getBox S l ci = some (encChk p st)) :
  CallIs theEnv (.fn 220) [.agg (encStm s), .ptr l ci 0, .slice (nk nb) (names.map encS)] S (outIf (cAsg p names s)) S := by
 refine CallIs.fn rfl rfl rfl ?_
 have g1 := fun T => getBox_up (T := T) hb
 have hlt := getBox_lt hb
 have hcell := fun T => cell_ok (n := (names.length : Int)) hs.target' (g1 T)
 have hnode := fun B => node_ok (p := p) (st := st) (n := (names.length : Int)) (l := l) (ci := ci) (l' := S.length) (ni := 2) (fun h => by omega) s.value hs.value' 0 (⟨[encStm s, encStm s, B], none⟩ :: S) (by omega) (by omega) (g1 _)
 simp only [a220, c220, go_sem, Nat.reduceEqDiff, Nat.reduceAdd, Nat.reduceLeDiff, Nat.reduceMul, Nat.reduceSub, Int.reduceLT, Int.reduceLE, Int.reduceEq, Int.reduceAdd, Int.reduceNeg, reduceIte, reduceCtorEq, Nat.reduceLT, (blank_ok _).call, (unset_ok _).callG, (need_ok _).call, CallP (hcell _)]
 split
 ·split
  ·have hn := hnode [.int .i64 0] (by simp only [go_sem, Nat.reduceEqDiff, Nat.reduceAdd, Nat.reduceLeDiff, Nat.reduceMul, Nat.reduceSub, Int.reduceLT, Int.reduceLE, Int.reduceEq, Int.reduceAdd, Int.reduceNeg, reduceIte, reduceCtorEq, Nat.reduceLT])
   simp only [go_sem, Nat.reduceEqDiff, Nat.reduceAdd, Nat.reduceLeDiff, Nat.reduceMul, Nat.reduceSub, Int.reduceLT, Int.reduceLE, Int.reduceEq, Int.reduceAdd, Int.reduceNeg, reduceIte, reduceCtorEq, Nat.reduceLT] at hn
   rw [CallP hn (by simp only [go_sem, Nat.reduceEqDiff, Nat.reduceAdd, Nat.reduceLeDiff, Nat.reduceMul, Nat.reduceSub, Int.reduceLT, Int.reduceLE, Int.reduceEq, Int.reduceAdd, Int.reduceNeg, reduceIte, reduceCtorEq, Nat.reduceLT]) (by simp only [go_sem, Nat.reduceEqDiff, Nat.reduceAdd, Nat.reduceLeDiff, Nat.reduceMul, Nat.reduceSub, Int.reduceLT, Int.reduceLE, Int.reduceEq, Int.reduceAdd, Int.reduceNeg, reduceIte, reduceCtorEq, Nat.reduceLT])]
   simp only [go_sem, Nat.reduceEqDiff, Nat.reduceAdd, Nat.reduceLeDiff, Nat.reduceMul, Nat.reduceSub, Int.reduceLT, Int.reduceLE, Int.reduceEq, Int.reduceAdd, Int.reduceNeg, reduceIte, reduceCtorEq, Nat.reduceLT, cAsg]
   grind
  ·simp only [go_sem, Nat.reduceEqDiff, Nat.reduceAdd, Nat.reduceLeDiff, Nat.reduceMul, Nat.reduceSub, Int.reduceLT, Int.reduceLE, Int.reduceEq, Int.reduceAdd, Int.reduceNeg, reduceIte, reduceCtorEq, Nat.reduceLT, cAsg]
   grind
 ·simp only [go_sem, Nat.reduceEqDiff, Nat.reduceAdd, Nat.reduceLeDiff, Nat.reduceMul, Nat.reduceSub, Int.reduceLT, Int.reduceLE, Int.reduceEq, Int.reduceAdd, Int.reduceNeg, reduceIte, reduceCtorEq, Nat.reduceLT, cAsg]
  grind
theorem if_ok {p : Prg} {st : Int} {s : Stm} {nb : Bool} {names : List ByteArray} {S : St} {l ci : Nat} (hs : OkStm s) (hb : getBox S l ci = some (encChk p st))
  (h1 : ∀ T, CallIs theEnv (.fn 80) [.ptr l ci 0, .slice (nk s.bn) (s.body.map encStm), .slice (nk nb) (names.map encS)] (T :: S) (outIf (chkBody p s.body names st).1) (T :: setBox S l ci (encChk p (chkBody p s.body names st).2)))
  (h2 : (chkBody p s.body names st).1 = true → ∀ T, CallIs theEnv (.fn 80) [.ptr l ci 0, .slice (nk s.en) (s.els.map encStm), .slice (nk nb) (names.map encS)] (T :: setBox S l ci (encChk p (chkBody p s.body names st).2)) (outIf (chkBody p s.els names (chkBody p s.body names st).2).1) (T :: setBox S l ci (encChk p (chkBody p s.els names (chkBody p s.body names st).2).2))) (hk : s.kind = 2) :
  CallIs theEnv (.fn 218) [.agg (encStm s), .ptr l ci 0, .slice (nk nb) (names.map encS)] S (outIf (chkStm p s names st).1) (setBox S l ci (encChk p (chkStm p s names st).2)) := by
 refine CallIs.fn rfl rfl rfl ?_
 have g1 := fun T => getBox_up (T := T) hb
 have hself := setBox_self hb
 rw [chkStm_if hk]
 cases hB : (chkBody p s.body names st).1 with
 | false =>
  have h1' := h1
  simp only [hB] at h1'
  simp only [a218, c218, go_sem, Nat.reduceEqDiff, Nat.reduceAdd, Nat.reduceLeDiff, Nat.reduceMul, Nat.reduceSub, Int.reduceLT, Int.reduceLE, Int.reduceEq, Int.reduceAdd, Int.reduceNeg, reduceIte, reduceCtorEq, Nat.reduceLT, (blank_ok _).call, (plainRef_ok _).callG, (plainExp_ok _).callG, (set_valid _ hs.test').call, (need_ok _).call, CallP (h1' _)]
  have hc : cIf names s = ((zLoop s && zRef s.target && zExp s.value) && (vSet s.test && decide (s.test.dim = (names.length : Int)))) := rfl
  grind
 | true =>
 have h1' := h1
 simp only [hB] at h1'
 simp only [a218, c218, go_sem, Nat.reduceEqDiff, Nat.reduceAdd, Nat.reduceLeDiff, Nat.reduceMul, Nat.reduceSub, Int.reduceLT, Int.reduceLE, Int.reduceEq, Int.reduceAdd, Int.reduceNeg, reduceIte, reduceCtorEq, Nat.reduceLT, (blank_ok _).call, (plainRef_ok _).callG, (plainExp_ok _).callG, (set_valid _ hs.test').call, (need_ok _).call, CallP (h1' _), CallP (h2 hB _)]
 have hc : cIf names s = ((zLoop s && zRef s.target && zExp s.value) && (vSet s.test && decide (s.test.dim = (names.length : Int)))) := rfl
 grind
theorem for_ok {p : Prg} {st : Int} {s : Stm} {nb : Bool} {names : List ByteArray} {S : St} {l ci : Nat} (hp : OkPrg p) (hs : OkStm s) (hb : getBox S l ci = some (encChk p st)) (hn : names.length ≤ 1000000) (hnb : nb = true → names = [])
  (h1 : ∀ T, CallIs theEnv (.fn 80) [.ptr l ci 0, .slice (nk s.bn) (s.body.map encStm), .slice .shut ((names ++ [s.name]).map encS)] (T :: S) (outIf (chkBody p s.body (names ++ [s.name]) st).1) (T :: setBox S l ci (encChk p (chkBody p s.body (names ++ [s.name]) st).2))) (hk : s.kind = 1) :
  CallIs theEnv (.fn 209) [.agg (encStm s), .ptr l ci 0, .slice (nk nb) (names.map encS)] S (outIf (chkStm p s names st).1) (setBox S l ci (encChk p (chkStm p s names st).2)) := by
 refine CallIs.fn rfl rfl rfl ?_
 have g1 := fun T => getBox_up (T := T) hb
 have hlt := getBox_lt hb
 have hself := setBox_self hb
 have hac := fun (B : List (List V)) (h : getBox (⟨B, none⟩ :: S) S.length 1 = some (encStm s)) => arr_contains (b := p.an) hp.al h
 have hnl : names.length ≤ LIM := Nat.le_trans hn (by decide)
 have hbl := bound_ok s.low (names.length : Int) hs.low'
 have hbh := bound_ok s.high (names.length : Int) hs.high'
 simp only [a209, c209, go_sem, Nat.reduceEqDiff, Nat.reduceAdd, Nat.reduceLeDiff, Nat.reduceMul, Nat.reduceSub, Int.reduceLT, Int.reduceLE, Int.reduceEq, Int.reduceAdd, Int.reduceNeg, reduceIte, reduceCtorEq, Nat.reduceLT, (named_ok nb names s.name hnl).call, CallGP (hac [encStm s, encStm s] (by simp only [go_sem, Nat.reduceEqDiff, Nat.reduceAdd, Nat.reduceLeDiff, Nat.reduceMul, Nat.reduceSub, Int.reduceLT, Int.reduceLE, Int.reduceEq, Int.reduceAdd, Int.reduceNeg, reduceIte, reduceCtorEq, Nat.reduceLT])) (by simp only [go_sem, Nat.reduceEqDiff, Nat.reduceAdd, Nat.reduceLeDiff, Nat.reduceMul, Nat.reduceSub, Int.reduceLT, Int.reduceLE, Int.reduceEq, Int.reduceAdd, Int.reduceNeg, reduceIte, reduceCtorEq, Nat.reduceLT]) (by simp only [go_sem, Nat.reduceEqDiff, Nat.reduceAdd, Nat.reduceLeDiff, Nat.reduceMul, Nat.reduceSub, Int.reduceLT, Int.reduceLE, Int.reduceEq, Int.reduceAdd, Int.reduceNeg, reduceIte, reduceCtorEq, Nat.reduceLT]), g1, (need_ok _).call, hbl.call, hbh.call, (unset_ok _).call, (plainRef_ok _).callG, (plainExp_ok _).callG]
 rw [chkStm_for hk]
 have hc : cFor p names s = ((vName s.name && isNew names s.name && arrNew p s.name) && vBound names.length s.low && vBound names.length s.high && (decide (1 ≤ s.step) && decide (s.step ≤ 64) && decide (0 ≤ s.mark) && decide (s.mark ≤ 2)) &&
  (decide (s.step = 1) || lowOne s.low) && (zSet s.test && zRef s.target && zExp s.value && decide ((s.els.length : Int) = 0))) := rfl
 unfold arrNew at hc
 split
 ·split
  ·split
   ·split
    ·have hlow : lowOne s.low = match s.low.parts with | [q] => (match q.rows with | [r] => decide (r.div = 1) | _ => false) | _ => false := rfl
     by_cases hst : s.step = 1
     ·simp only [go_sem, Nat.reduceEqDiff, Nat.reduceAdd, Nat.reduceLeDiff, Nat.reduceMul, Nat.reduceSub, Int.reduceLT, Int.reduceLE, Int.reduceEq, Int.reduceAdd, Int.reduceNeg, reduceIte, reduceCtorEq, Nat.reduceLT, hst, (unset_ok _).call, (plainRef_ok _).callG, (plainExp_ok _).callG, (need_ok _).call, (clone_ok nb names (by omega) hnb).call, app_clone (by omega) hnb, CallP (h1 _)]
      grind
     ·by_cases hL : ∃ q, s.low.parts = [q]
      ·obtain ⟨q, hq⟩ := hL
       by_cases hR : ∃ r, q.rows = [r]
       ·obtain ⟨r, hr⟩ := hR
        rw [hq] at hlow
        simp only [hr] at hlow
        simp only [go_sem, Nat.reduceEqDiff, Nat.reduceAdd, Nat.reduceLeDiff, Nat.reduceMul, Nat.reduceSub, Int.reduceLT, Int.reduceLE, Int.reduceEq, Int.reduceAdd, Int.reduceNeg, reduceIte, reduceCtorEq, Nat.reduceLT, hst, hq, hr, (unset_ok _).call, (plainRef_ok _).callG, (plainExp_ok _).callG, (need_ok _).call, (clone_ok nb names (by omega) hnb).call, app_clone (by omega) hnb, CallP (h1 _)]
        grind
       ·have hr1 : ¬ (q.rows.length : Int) = 1 := fun h => hR (by
         match hx : q.rows, h with
         | [r], _ => exact ⟨r, rfl⟩)
        have hlow' : lowOne s.low = false := by
         rw [hlow, hq]; simp only
         split
         ·rename_i r hr; exact absurd ⟨r, hr⟩ hR
         ·rfl
        simp only [go_sem, Nat.reduceEqDiff, Nat.reduceAdd, Nat.reduceLeDiff, Nat.reduceMul, Nat.reduceSub, Int.reduceLT, Int.reduceLE, Int.reduceEq, Int.reduceAdd, Int.reduceNeg, reduceIte, reduceCtorEq, Nat.reduceLT, hst, hq, hr1, (need_ok _).call]
        grind
      ·have hl1 : ¬ (s.low.parts.length : Int) = 1 := fun h => hL (by
        match hx : s.low.parts, h with
        | [r], _ => exact ⟨r, rfl⟩)
       have hlow' : lowOne s.low = false := by
        rw [hlow]
        split
        ·rename_i r hr; exact absurd ⟨r, hr⟩ hL
        ·rfl
       simp only [go_sem, Nat.reduceEqDiff, Nat.reduceAdd, Nat.reduceLeDiff, Nat.reduceMul, Nat.reduceSub, Int.reduceLT, Int.reduceLE, Int.reduceEq, Int.reduceAdd, Int.reduceNeg, reduceIte, reduceCtorEq, Nat.reduceLT, hst, hl1, (need_ok _).call]
       grind
    ·grind
   ·grind
  ·grind
 ·grind
end Wp
end AM
end Go.Proofs.YtimfbnojmdnlnaaGreat
end
section
namespace Go.Proofs.YtimfbnojmdnlnaaGreat
namespace AM
namespace Wp
def StmSpec (p : Prg) (l ci : Nat) (s : Stm) : Prop := ∀ (names : List ByteArray) (nb : Bool) (st : Int) (S : St), (names.length : Int) - p.params.length ≤ 10 → (nb = true → names = []) → getBox S l ci = some (encChk p st) → 0 ≤ st → st ≤ 256 →
 (s.kind = 1 → CallIs theEnv (.fn 209) [.agg (encStm s), .ptr l ci 0, .slice (nk nb) (names.map encS)] S (outIf (chkStm p s names st).1) (setBox S l ci (encChk p (chkStm p s names st).2))) ∧
 (s.kind = 2 → CallIs theEnv (.fn 218) [.agg (encStm s), .ptr l ci 0, .slice (nk nb) (names.map encS)] S (outIf (chkStm p s names st).1) (setBox S l ci (encChk p (chkStm p s names st).2))) ∧
 (s.kind = 3 → CallIs theEnv (.fn 220) [.agg (encStm s), .ptr l ci 0, .slice (nk nb) (names.map encS)] S (outIf (chkStm p s names st).1) (setBox S l ci (encChk p (chkStm p s names st).2)))
def BodySpec (p : Prg) (l ci : Nat) (ss : List Stm) : Prop := ∀ (names : List ByteArray) (nb bn : Bool) (st : Int) (S : St), (names.length : Int) - p.params.length ≤ 11 → (nb = true → names = []) → getBox S l ci = some (encChk p st) → 0 ≤ st → st ≤ 256 →
 CallIs theEnv (.fn 80) [.ptr l ci 0, .slice (nk bn) (ss.map encStm), .slice (nk nb) (names.map encS)] S (outIf (chkBody p ss names st).1) (setBox S l ci (encChk p (chkBody p ss names st).2))
theorem m_for : theEnv.meth 222 "headland/lang.check" = some 209 := by simp [theEnv, theMeth]
theorem m_test : theEnv.meth 223 "headland/lang.check" = some 218 := by simp [theEnv, theMeth]
theorem m_assign : theEnv.meth 224 "headland/lang.check" = some 220 := by simp [theEnv, theMeth]
theorem body_ok {p : Prg} {l ci : Nat} (hp : OkPrg p) (hpp : p.params.length ≤ 1000) {ss : List Stm} (hl : ss.length ≤ LIM) (hs : ∀ s ∈ ss, StmSpec p l ci s) : BodySpec p l ci ss := by
 intro names nb bn st S hn hnb hb h0 h256
 refine CallIs.fn rfl rfl rfl ?_
 have g1 := fun T => getBox_up (T := T) hb
 have g3 : ∀ v, dz (some v) = some v → getBox (setBox S l ci v) l ci = some v := fun v hv => getBox_set hv hb
 have g5 := fun T v hv => getBox_up (T := T) (g3 v hv)
 have g7 : ∀ T v w, setBox (T :: setBox S l ci v) l ci w = T :: setBox S l ci w := fun T v w => by rw [setBox_below (by rw [len_setBox]; have := getBox_lt hb; omega), setBox_setBox]
 have hself := setBox_self hb
 have hw : IntKind.i64.wrap ((names.length : Int) - (p.params.length : Int)) = (names.length : Int) - (p.params.length : Int) := wrap64 (by omega) (by omega)
 simp only [a80, c80, go_sem, Nat.reduceEqDiff, Nat.reduceAdd, Nat.reduceLeDiff, Nat.reduceMul, Nat.reduceSub, Int.reduceLT, Int.reduceLE, Int.reduceEq, Int.reduceAdd, Int.reduceNeg, reduceIte, reduceCtorEq, Nat.reduceLT, g1, hw, (need_ok _).call]
 have hdeep : deep p ss names = (decide (ss.length = 0) || decide ((names.length : Int) - (p.params.length : Int) ≤ 10)) := by simp [deep]
 unfold chkBody
 rw [← hdeep]
 split
 ·rename_i hd
  refine Run_range ss.length [0, 2, 24] [] (fun k vs S' => ∃ B st', S' = ⟨B, none⟩ :: setBox S l ci (encChk p st') ∧ chkList p (ss.take k) names st = (true, st') ∧ 0 ≤ st' ∧ st' ≤ 256) hl (by simp only [go_sem, Nat.reduceEqDiff, Nat.reduceAdd, Nat.reduceLeDiff, Nat.reduceMul, Nat.reduceSub, Int.reduceLT, Int.reduceLE, Int.reduceEq, Int.reduceAdd, Int.reduceNeg, reduceIte, reduceCtorEq, Nat.reduceLT]) (by simp only [go_sem, Nat.reduceEqDiff, Nat.reduceAdd, Nat.reduceLeDiff, Nat.reduceMul, Nat.reduceSub, Int.reduceLT, Int.reduceLE, Int.reduceEq, Int.reduceAdd, Int.reduceNeg, reduceIte, reduceCtorEq, Nat.reduceLT]) rfl rfl rfl rfl (by simp only [go_sem, Nat.reduceEqDiff, Nat.reduceAdd, Nat.reduceLeDiff, Nat.reduceMul, Nat.reduceSub, Int.reduceLT, Int.reduceLE, Int.reduceEq, Int.reduceAdd, Int.reduceNeg, reduceIte, reduceCtorEq, Nat.reduceLT]) ⟨_, st, by rw [hself], by rw [List.take_zero, chkList], h0, h256⟩ ?_ ?_
  ·rintro k F _ hk ⟨B, st', rfl, hc, h0', h256'⟩ hi hkept
   simp only [go_sem, Nat.reduceEqDiff, Nat.reduceAdd, Nat.reduceLeDiff, Nat.reduceMul, Nat.reduceSub, Int.reduceLT, Int.reduceLE, Int.reduceEq, Int.reduceAdd, Int.reduceNeg, reduceIte, reduceCtorEq, Nat.reduceLT] at hkept
   obtain ⟨s, hsk⟩ : ∃ s, ss[k]? = some s := ⟨ss[k], List.getElem?_eq_getElem hk⟩
   have hm := List.mem_of_getElem? hsk
   have hw2 : IntKind.i64.wrap (st' + 1) = st' + 1 := wrap64 (by omega) (by omega)
   have hn10 : (names.length : Int) - p.params.length ≤ 10 := by
    rw [hdeep] at hd
    have : ss.length ≠ 0 := by omega
    simpa [this] using hd
   have hall : chkList p ss names st = chkList p (s :: ss.drop (k + 1)) names st' := by
    have : ss = ss.take k ++ (s :: ss.drop (k + 1)) := by
     have h1 := (List.getElem?_eq_some_iff.1 hsk).2
     rw [← h1, List.getElem_cons_drop, List.take_append_drop]
    conv => lhs; rw [this]
    rw [chkList_app (by rw [hc]), hc]
   simp only [go_sem, Nat.reduceEqDiff, Nat.reduceAdd, Nat.reduceLeDiff, Nat.reduceMul, Nat.reduceSub, Int.reduceLT, Int.reduceLE, Int.reduceEq, Int.reduceAdd, Int.reduceNeg, reduceIte, reduceCtorEq, Nat.reduceLT, hkept, hi, iaO_map hsk, g5, g7, hw2, (need_ok _).call]
   have htake : chkList p (ss.take (k + 1)) names st = chkList p [s] names st' := by
    rw [take_snoc hsk, chkList_app (by rw [hc]), hc]
   rw [hall, chkList_cons]
   rw [chkList_cons] at htake
   split
   ·rename_i hle
    rw [if_pos hle] at htake
    have hsp := hs s hm names nb (st' + 1) (⟨B ++ [encStm s], none⟩ :: setBox S l ci (encChk p (st' + 1))) hn10 hnb (g5 _ _ rfl) (by omega) hle
    simp only [g7] at hsp
    have hk3 : (∃ t f, Sp theEnv 114 [.agg (encStm s)] (.ifc t (.agg (encStm s))) ∧ theEnv.meth t "headland/lang.check" = some f ∧ CallIs theEnv (.fn f) [.agg (encStm s), .ptr l ci 0, .slice (nk nb) (names.map encS)] (⟨B ++ [encStm s], none⟩ :: setBox S l ci (encChk p (st' + 1))) (outIf (chkStm p s names (st' + 1)).1) (⟨B ++ [encStm s], none⟩ :: setBox S l ci (encChk p (chkStm p s names (st' + 1)).2))) ∨
      (SpC theEnv 114 [.agg (encStm s)] false ∧ chkStm p s names (st' + 1) = (false, st' + 1)) := by
     by_cases h1 : s.kind = 1
     ·exact .inl ⟨_, _, kind_for s h1, m_for, hsp.1 h1⟩
     by_cases h2 : s.kind = 2
     ·exact .inl ⟨_, _, kind_if s h2, m_test, hsp.2.1 h2⟩
     by_cases h3 : s.kind = 3
     ·exact .inl ⟨_, _, kind_asg s h3, m_assign, hsp.2.2 h3⟩
     exact .inr ⟨kind_bad s h1 h2 h3, chkStm_bad h1 h2 h3⟩
    rcases hk3 with ⟨t, f, hsk1, hmt, hcall⟩ | ⟨hbad, hst⟩
    ·simp only [go_sem, Nat.reduceEqDiff, Nat.reduceAdd, Nat.reduceLeDiff, Nat.reduceMul, Nat.reduceSub, Int.reduceLT, Int.reduceLE, Int.reduceEq, Int.reduceAdd, Int.reduceNeg, reduceIte, reduceCtorEq, Nat.reduceLT, hsk1.call, hkept, InvP (xs := [.ptr l ci 0, .slice (nk nb) (names.map encS)]) hmt hcall (by simp only [go_sem, Nat.reduceEqDiff, Nat.reduceAdd, Nat.reduceLeDiff, Nat.reduceMul, Nat.reduceSub, Int.reduceLT, Int.reduceLE, Int.reduceEq, Int.reduceAdd, Int.reduceNeg, reduceIte, reduceCtorEq, Nat.reduceLT]) (by simp only [go_sem, Nat.reduceEqDiff, Nat.reduceAdd, Nat.reduceLeDiff, Nat.reduceMul, Nat.reduceSub, Int.reduceLT, Int.reduceLE, Int.reduceEq, Int.reduceAdd, Int.reduceNeg, reduceIte, reduceCtorEq, Nat.reduceLT])]
     split
     ·rename_i hr
      rw [if_pos hr, chkList] at htake
      have hbd := chk_bound s names (st' + 1) hr
      exact ⟨_, _, ⟨rfl, rfl⟩, htake, by omega, hbd.2 hle⟩
     ·rename_i hr
      exact ⟨rfl, rfl⟩
    ·simp only [go_sem, Nat.reduceEqDiff, Nat.reduceAdd, Nat.reduceLeDiff, Nat.reduceMul, Nat.reduceSub, Int.reduceLT, Int.reduceLE, Int.reduceEq, Int.reduceAdd, Int.reduceNeg, reduceIte, reduceCtorEq, Nat.reduceLT, hbad.call, hst]
   ·simp only [go_sem, Nat.reduceEqDiff, Nat.reduceAdd, Nat.reduceLeDiff, Nat.reduceMul, Nat.reduceSub, Int.reduceLT, Int.reduceLE, Int.reduceEq, Int.reduceAdd, Int.reduceNeg, reduceIte, reduceCtorEq, Nat.reduceLT]
  ·rintro F _ ⟨B, st', rfl, hc, _⟩ hkept
   rw [List.take_length] at hc
   simp only [go_sem, Nat.reduceEqDiff, Nat.reduceAdd, Nat.reduceLeDiff, Nat.reduceMul, Nat.reduceSub, Int.reduceLT, Int.reduceLE, Int.reduceEq, Int.reduceAdd, Int.reduceNeg, reduceIte, reduceCtorEq, Nat.reduceLT, hc, if_true, hd]
 ·simp only [go_sem, Nat.reduceEqDiff, Nat.reduceAdd, Nat.reduceLeDiff, Nat.reduceMul, Nat.reduceSub, Int.reduceLT, Int.reduceLE, Int.reduceEq, Int.reduceAdd, Int.reduceNeg, reduceIte, reduceCtorEq, Nat.reduceLT, hself]
theorem stm_ok {p : Prg} {l ci : Nat} (hp : OkPrg p) (hpp : p.params.length ≤ 1000) : ∀ s, OkStm s → StmSpec p l ci s := by
 refine Stm.ind fun s ihb ihe hs => ?_
 have hb := body_ok hp hpp hs.bn' fun t ht => ihb t ht (hs.body' t ht)
 have he := body_ok hp hpp hs.en' fun t ht => ihe t ht (hs.els' t ht)
 intro names nb st S hn hnb hg h0 h256
 have g1 := fun T => getBox_up (T := T) hg
 have g2 := fun T v => setBox_up (T := T) (v := v) hg
 have g3 : ∀ v, dz (some v) = some v → getBox (setBox S l ci v) l ci = some v := fun v hv => getBox_set hv hg
 have g5 := fun T v hv => getBox_up (T := T) (g3 v hv)
 have g7 : ∀ T v w, setBox (T :: setBox S l ci v) l ci w = T :: setBox S l ci w := fun T v w => by rw [setBox_below (by rw [len_setBox]; have := getBox_lt hg; omega), setBox_setBox]
 refine ⟨fun hk => ?_, fun hk => ?_, fun hk => ?_⟩
 ·refine for_ok hp hs hg (by omega) hnb (fun T => ?_) hk
  have := hb (names ++ [s.name]) false s.bn st (T :: S) (by simp; omega) (by simp) (g1 T) h0 h256
  rw [g2] at this
  exact this
 ·refine if_ok hs hg (fun T => ?_) (fun hB T => ?_) hk
  ·have := hb names nb s.bn st (T :: S) (by omega) hnb (g1 T) h0 h256
   rw [g2] at this
   exact this
  ·have hbd := body_bound hB
   have := he names nb s.en (chkBody p s.body names st).2 (T :: setBox S l ci (encChk p (chkBody p s.body names st).2)) (by omega) hnb (g5 T _ rfl) (by omega) (hbd.2 h256)
   rw [g7] at this
   exact this
 ·have := asg_ok (nb := nb) (names := names) hs hg
  rw [chkStm_asg hk]
  simp only [setBox_self hg]
  exact this
end Wp
end AM
end Go.Proofs.YtimfbnojmdnlnaaGreat
end
section
namespace Go.Proofs.YtimfbnojmdnlnaaGreat
namespace AM
namespace Wp
def hPar : List ByteArray → List ByteArray → Bool
 | _, [] => true
 | acc, s :: l => vName s && isNew acc s && hPar (acc ++ [s]) l
def hArr (n : Int) : List ByteArray → List Arr → Bool
 | _, [] => true
 | acc, a :: l => (vName a.name && isNew acc a.name && decide ((a.sizes.length : Int) ≤ 3)) && a.sizes.all (vOverL n) && hArr n (acc ++ [a.name]) l
def vHead (p : Prg) : Bool := (decide ((p.params.length : Int) ≤ 2) && decide ((p.arrays.length : Int) ≤ 8)) && hPar [] p.params && hArr p.params.length p.params p.arrays
theorem hPar_app : ∀ {xs acc ys : List ByteArray}, hPar acc (xs ++ ys) = (hPar acc xs && hPar (acc ++ xs) ys)
 | [], acc, ys => by simp [hPar]
 | x :: xs, acc, ys => by
  simp only [List.cons_append, hPar, hPar_app (xs := xs), Bool.and_assoc, List.append_assoc]
  rfl
theorem hArr_app {n : Int} : ∀ {xs ys : List Arr} {acc : List ByteArray}, hArr n acc (xs ++ ys) = (hArr n acc xs && hArr n (acc ++ xs.map (·.name)) ys)
 | [], ys, acc => by simp [hArr]
 | x :: xs, ys, acc => by
  simp only [List.cons_append, hArr, hArr_app (xs := xs), Bool.and_assoc, List.append_assoc, List.map_cons]
  rfl
theorem cut_at {α : Type} {l : List α} {k : Nat} {x : α} (h : l[k]? = some x) : l = l.take k ++ (x :: l.drop (k + 1)) := by
 have h1 := (List.getElem?_eq_some_iff.1 h).2
 rw [← h1, List.getElem_cons_drop, List.take_append_drop]
theorem cat_snoc {l : List ByteArray} {s : ByteArray} : l.map encS ++ [[.str s]] = (l ++ [s]).map encS := by simp [encS]
theorem le_lim {n : Nat} (h : n ≤ 1000000) : n ≤ LIM := Nat.le_trans h (by decide)
theorem head_ok {p : Prg} {st : Int} {S : St} {l ci : Nat} (hp : OkPrg p) (hb : getBox S l ci = some (encChk p st)) : CallIs theEnv (.fn 79) [.ptr l ci 0] S (outIf (vHead p)) S := by
 refine CallIs.fn rfl rfl rfl ?_
 have g1 := fun T => getBox_up (T := T) hb
 simp only [a79, c79, go_sem, Nat.reduceEqDiff, Nat.reduceAdd, Nat.reduceLeDiff, Nat.reduceMul, Nat.reduceSub, Int.reduceLT, Int.reduceLE, Int.reduceEq, Int.reduceAdd, Int.reduceNeg, reduceIte, reduceCtorEq, Nat.reduceLT, g1, (need_ok _).call]
 split
 ·rename_i hlen
  refine Run_range p.params.length [0, 30] [2] (fun k vs S' => vs = [grown 9 ((p.params.take k).map encS)] ∧ S' = ⟨[], none⟩ :: S ∧ hPar [] (p.params.take k) = true) hp.pl (by simp only [go_sem, Nat.reduceEqDiff, Nat.reduceAdd, Nat.reduceLeDiff, Nat.reduceMul, Nat.reduceSub, Int.reduceLT, Int.reduceLE, Int.reduceEq, Int.reduceAdd, Int.reduceNeg, reduceIte, reduceCtorEq, Nat.reduceLT]) (by simp only [go_sem, Nat.reduceEqDiff, Nat.reduceAdd, Nat.reduceLeDiff, Nat.reduceMul, Nat.reduceSub, Int.reduceLT, Int.reduceLE, Int.reduceEq, Int.reduceAdd, Int.reduceNeg, reduceIte, reduceCtorEq, Nat.reduceLT]) rfl rfl rfl rfl (by simp only [go_sem, Nat.reduceEqDiff, Nat.reduceAdd, Nat.reduceLeDiff, Nat.reduceMul, Nat.reduceSub, Int.reduceLT, Int.reduceLE, Int.reduceEq, Int.reduceAdd, Int.reduceNeg, reduceIte, reduceCtorEq, Nat.reduceLT]) ⟨by simp only [go_sem, Nat.reduceEqDiff, Nat.reduceAdd, Nat.reduceLeDiff, Nat.reduceMul, Nat.reduceSub, Int.reduceLT, Int.reduceLE, Int.reduceEq, Int.reduceAdd, Int.reduceNeg, reduceIte, reduceCtorEq, Nat.reduceLT, List.take_zero, grown_nil], rfl, rfl⟩ ?_ ?_
  ·rintro k F _ hk ⟨hv, rfl, hok⟩ hi hkept
   simp only [go_sem, Nat.reduceEqDiff, Nat.reduceAdd, Nat.reduceLeDiff, Nat.reduceMul, Nat.reduceSub, Int.reduceLT, Int.reduceLE, Int.reduceEq, Int.reduceAdd, Int.reduceNeg, reduceIte, reduceCtorEq, Nat.reduceLT] at hkept hv
   obtain ⟨s, hsk⟩ : ∃ s, p.params[k]? = some s := ⟨p.params[k], List.getElem?_eq_getElem hk⟩
   have hkl : (p.params.take k).length = k := by simp; omega
   have happ := appO_grown (e := 9) (n := 1) (b := 16) (k := .own 9) (xs := (p.params.take k).map encS) (ys := [[.str s]]) rfl (by simp; omega) (by simp; omega)
   simp only [go_sem, Nat.reduceEqDiff, Nat.reduceAdd, Nat.reduceLeDiff, Nat.reduceMul, Nat.reduceSub, Int.reduceLT, Int.reduceLE, Int.reduceEq, Int.reduceAdd, Int.reduceNeg, reduceIte, reduceCtorEq, Nat.reduceLT, hkept, hi, hv, iaO_map hsk, (named_ok _ (p.params.take k) s (le_lim (by omega))).call, (need_ok _).call, happ, cat_snoc, take_snoc hsk, hPar_app, hok]
   have hfail : (vName s && isNew (p.params.take k) s) = false → vHead p = false := fun h => by
    have : hPar [] p.params = false := by
     rw [cut_at hsk, hPar_app, hok, Bool.true_and, List.nil_append, hPar]
     rw [h]; rfl
    simp only [vHead, this, Bool.and_false, Bool.false_and]
   simp only [hPar, Bool.and_true]
   grind
  ·rintro F _ ⟨hv, rfl, hok⟩ hkept
   simp only [go_sem, Nat.reduceEqDiff, Nat.reduceAdd, Nat.reduceLeDiff, Nat.reduceMul, Nat.reduceSub, Int.reduceLT, Int.reduceLE, Int.reduceEq, Int.reduceAdd, Int.reduceNeg, reduceIte, reduceCtorEq, Nat.reduceLT] at hkept hv
   rw [List.take_length] at hok hv
   simp only [go_sem, Nat.reduceEqDiff, Nat.reduceAdd, Nat.reduceLeDiff, Nat.reduceMul, Nat.reduceSub, Int.reduceLT, Int.reduceLE, Int.reduceEq, Int.reduceAdd, Int.reduceNeg, reduceIte, reduceCtorEq, Nat.reduceLT, hkept, hv, g1]
   refine Run_range p.arrays.length [0, 49] [2] (fun k vs S' => vs = [grown 9 ((p.params ++ (p.arrays.take k).map (·.name)).map encS)] ∧ (∃ B, S' = ⟨B, none⟩ :: S) ∧ hArr p.params.length p.params (p.arrays.take k) = true) hp.al (by simp only [go_sem, Nat.reduceEqDiff, Nat.reduceAdd, Nat.reduceLeDiff, Nat.reduceMul, Nat.reduceSub, Int.reduceLT, Int.reduceLE, Int.reduceEq, Int.reduceAdd, Int.reduceNeg, reduceIte, reduceCtorEq, Nat.reduceLT]) (by simp only [go_sem, Nat.reduceEqDiff, Nat.reduceAdd, Nat.reduceLeDiff, Nat.reduceMul, Nat.reduceSub, Int.reduceLT, Int.reduceLE, Int.reduceEq, Int.reduceAdd, Int.reduceNeg, reduceIte, reduceCtorEq, Nat.reduceLT]) rfl rfl rfl rfl (by simp only [go_sem, Nat.reduceEqDiff, Nat.reduceAdd, Nat.reduceLeDiff, Nat.reduceMul, Nat.reduceSub, Int.reduceLT, Int.reduceLE, Int.reduceEq, Int.reduceAdd, Int.reduceNeg, reduceIte, reduceCtorEq, Nat.reduceLT, hkept]) ⟨by simp only [go_sem, Nat.reduceEqDiff, Nat.reduceAdd, Nat.reduceLeDiff, Nat.reduceMul, Nat.reduceSub, Int.reduceLT, Int.reduceLE, Int.reduceEq, Int.reduceAdd, Int.reduceNeg, reduceIte, reduceCtorEq, Nat.reduceLT, List.take_zero, hv], ⟨_, rfl⟩, rfl⟩ ?_ ?_
   ·rintro k F' _ hk ⟨hv2, ⟨B, rfl⟩, hok2⟩ hi2 hkept2
    simp only [go_sem, Nat.reduceEqDiff, Nat.reduceAdd, Nat.reduceLeDiff, Nat.reduceMul, Nat.reduceSub, Int.reduceLT, Int.reduceLE, Int.reduceEq, Int.reduceAdd, Int.reduceNeg, reduceIte, reduceCtorEq, Nat.reduceLT, hkept] at hkept2 hv2
    obtain ⟨a, hak⟩ : ∃ a, p.arrays[k]? = some a := ⟨p.arrays[k], List.getElem?_eq_getElem hk⟩
    have ham := List.mem_of_getElem? hak
    have hao := hp.as a ham
    have hkl : (p.arrays.take k).length = k := by simp; omega
    have hkl2 : (p.params ++ (p.arrays.take k).map (·.name)).length ≤ 10 := by simp; omega
    have happ := appO_grown (e := 9) (n := 1) (b := 16) (k := .own 9) (xs := (p.params ++ (p.arrays.take k).map (·.name)).map encS) (ys := [[.str a.name]]) rfl (by rw [List.length_map]; simp only [List.length_singleton]; omega) (by rw [List.length_map]; simp only [List.length_singleton]; omega)
    simp only [go_sem, Nat.reduceEqDiff, Nat.reduceAdd, Nat.reduceLeDiff, Nat.reduceMul, Nat.reduceSub, Int.reduceLT, Int.reduceLE, Int.reduceEq, Int.reduceAdd, Int.reduceNeg, reduceIte, reduceCtorEq, Nat.reduceLT, hkept2, hi2, hv2, iaO_map hak, (named_ok _ (p.params ++ (p.arrays.take k).map (·.name)) a.name (le_lim (by omega))).call, (need_ok _).call, happ, cat_snoc]
    have hname : ∀ b : Bool, ((vName a.name && isNew (p.params ++ (p.arrays.take k).map (·.name)) a.name && decide ((a.sizes.length : Int) ≤ 3)) && b) = false → a.sizes.all (vOverL p.params.length) = b → vHead p = false := fun b h hb => by
     have : hArr p.params.length p.params p.arrays = false := by
      rw [cut_at hak, hArr_app, hok2, Bool.true_and, hArr, hb, h]; rfl
     simp only [vHead, this, Bool.and_false]
    split
    ·rename_i hn
     refine Run_all a.sizes (vOverL p.params.length) (fun S' => ∃ B, S' = ⟨B, none⟩ :: S) [0, 2, 49, 51, 72] hao.l (by simp only [go_sem, Nat.reduceEqDiff, Nat.reduceAdd, Nat.reduceLeDiff, Nat.reduceMul, Nat.reduceSub, Int.reduceLT, Int.reduceLE, Int.reduceEq, Int.reduceAdd, Int.reduceNeg, reduceIte, reduceCtorEq, Nat.reduceLT, hkept2, hi2]) (by simp only [go_sem, Nat.reduceEqDiff, Nat.reduceAdd, Nat.reduceLeDiff, Nat.reduceMul, Nat.reduceSub, Int.reduceLT, Int.reduceLE, Int.reduceEq, Int.reduceAdd, Int.reduceNeg, reduceIte, reduceCtorEq, Nat.reduceLT, hkept2, hi2]) rfl rfl rfl (by simp only [go_sem, Nat.reduceEqDiff, Nat.reduceAdd, Nat.reduceLeDiff, Nat.reduceMul, Nat.reduceSub, Int.reduceLT, Int.reduceLE, Int.reduceEq, Int.reduceAdd, Int.reduceNeg, reduceIte, reduceCtorEq, Nat.reduceLT, hkept2, hi2]) ⟨_, rfl⟩ ?_ ?_
     ·rintro k F2 _ x hx hm ⟨B, rfl⟩ hi3 hkept3 hall
      simp only [go_sem, Nat.reduceEqDiff, Nat.reduceAdd, Nat.reduceLeDiff, Nat.reduceMul, Nat.reduceSub, Int.reduceLT, Int.reduceLE, Int.reduceEq, Int.reduceAdd, Int.reduceNeg, reduceIte, reduceCtorEq, Nat.reduceLT, hkept2, hi2] at hkept3 hall
      simp only [go_sem, Nat.reduceEqDiff, Nat.reduceAdd, Nat.reduceLeDiff, Nat.reduceMul, Nat.reduceSub, Int.reduceLT, Int.reduceLE, Int.reduceEq, Int.reduceAdd, Int.reduceNeg, reduceIte, reduceCtorEq, Nat.reduceLT, hkept3, hi3, iaO_map hx, g1, (over_ok x _ (hao.s x hm)).call, (need_ok _).call]
      split
      ·assumption
      ·rename_i hx2
       intro _ _
       exact hname false (Bool.and_false _) (hall (by simpa using hx2))
     ·rintro F2 _ hall ⟨B2, rfl⟩ hkept3
      simp only [go_sem, Nat.reduceEqDiff, Nat.reduceAdd, Nat.reduceLeDiff, Nat.reduceMul, Nat.reduceSub, Int.reduceLT, Int.reduceLE, Int.reduceEq, Int.reduceAdd, Int.reduceNeg, reduceIte, reduceCtorEq, Nat.reduceLT, hkept2] at hkept3
      simp only [go_sem, Nat.reduceEqDiff, Nat.reduceAdd, Nat.reduceLeDiff, Nat.reduceMul, Nat.reduceSub, Int.reduceLT, Int.reduceLE, Int.reduceEq, Int.reduceAdd, Int.reduceNeg, reduceIte, reduceCtorEq, Nat.reduceLT, hkept3]
      rw [take_snoc hak]
      refine ⟨by rw [List.map_append (l₂ := [a])]; rfl, ?_⟩
      rw [hArr_app, hok2, Bool.true_and, hArr, hArr, hall]
      simp only [hn.1.1, hn.1.2, hn.2, decide_true, Bool.and_true]
    ·rename_i hn
     intro _
     refine hname _ ?_ rfl
     have : (vName a.name && isNew (p.params ++ (p.arrays.take k).map (·.name)) a.name && decide ((a.sizes.length : Int) ≤ 3)) = false := by
      rw [← Bool.not_eq_true]
      simpa only [Bool.and_eq_true, decide_eq_true_eq] using hn
     rw [this, Bool.false_and]
   ·rintro F' _ ⟨hv2, ⟨B, rfl⟩, hok2⟩ hkept2
    rw [List.take_length] at hok2
    simp only [go_sem, Nat.reduceEqDiff, Nat.reduceAdd, Nat.reduceLeDiff, Nat.reduceMul, Nat.reduceSub, Int.reduceLT, Int.reduceLE, Int.reduceEq, Int.reduceAdd, Int.reduceNeg, reduceIte, reduceCtorEq, Nat.reduceLT, vHead, hok, hok2]
    exact hlen
 ·simp only [vHead]
  grind
def flat : ACode → Bool
 | .seq a b => flat a && flat b
 | .cond _ a b => flat a && flat b
 | .blk _ a => flat a
 | .loop _ => false
 | .rng .. => false
 | _ => true
def depth : ACode → Nat
 | .seq a b => max (depth a) (depth b) + 1
 | .cond _ a b => max (depth a) (depth b) + 1
 | .blk _ a => depth a + 1
 | _ => 1
theorem codeN_flat {meth : Nat → String → Option Nat} {cE : CE} : ∀ {c : ACode} {k k' : Nat} {F : Fr} {S : St}, flat c = true → depth c ≤ k → depth c ≤ k' → codeN meth cE k c F S = codeN meth cE k' c F S := by
 intro c
 induction c with
 | nop => intro k k' F S _ h h'; obtain ⟨k, rfl⟩ : ∃ m, k = m + 1 := ⟨k - 1, by simp only [depth] at h; omega⟩; obtain ⟨k', rfl⟩ : ∃ m, k' = m + 1 := ⟨k' - 1, by simp only [depth] at h'; omega⟩; rfl
 | reg bs => intro k k' F S _ h h'; obtain ⟨k, rfl⟩ : ∃ m, k = m + 1 := ⟨k - 1, by simp only [depth] at h; omega⟩; obtain ⟨k', rfl⟩ : ∃ m, k' = m + 1 := ⟨k' - 1, by simp only [depth] at h'; omega⟩; rfl
 | exit id => intro k k' F S _ h h'; obtain ⟨k, rfl⟩ : ∃ m, k = m + 1 := ⟨k - 1, by simp only [depth] at h; omega⟩; obtain ⟨k', rfl⟩ : ∃ m, k' = m + 1 := ⟨k' - 1, by simp only [depth] at h'; omega⟩; rfl
 | ret => intro k k' F S _ h h'; obtain ⟨k, rfl⟩ : ∃ m, k = m + 1 := ⟨k - 1, by simp only [depth] at h; omega⟩; obtain ⟨k', rfl⟩ : ∃ m, k' = m + 1 := ⟨k' - 1, by simp only [depth] at h'; omega⟩; rfl
 | seq a b iha ihb =>
  intro k k' F S hf h h'
  simp only [flat, Bool.and_eq_true] at hf
  simp only [depth] at h h'
  obtain ⟨k, rfl⟩ : ∃ m, k = m + 1 := ⟨k - 1, by omega⟩
  obtain ⟨k', rfl⟩ : ∃ m, k' = m + 1 := ⟨k' - 1, by omega⟩
  simp only [codeN]
  rw [iha hf.1 (show depth a ≤ k by omega) (show depth a ≤ k' by omega)]
  split
  ·exact ihb hf.2 (by omega) (by omega)
  ·rfl
 | cond c a b iha ihb =>
  intro k k' F S hf h h'
  simp only [flat, Bool.and_eq_true] at hf
  simp only [depth] at h h'
  obtain ⟨k, rfl⟩ : ∃ m, k = m + 1 := ⟨k - 1, by omega⟩
  obtain ⟨k', rfl⟩ : ∃ m, k' = m + 1 := ⟨k' - 1, by omega⟩
  simp only [codeN]
  rw [iha hf.1 (show depth a ≤ k by omega) (show depth a ≤ k' by omega), ihb hf.2 (show depth b ≤ k by omega) (show depth b ≤ k' by omega)]
 | blk id a iha =>
  intro k k' F S hf h h'
  simp only [flat] at hf
  simp only [depth] at h h'
  obtain ⟨k, rfl⟩ : ∃ m, k = m + 1 := ⟨k - 1, by omega⟩
  obtain ⟨k', rfl⟩ : ∃ m, k' = m + 1 := ⟨k' - 1, by omega⟩
  simp only [codeN]
  rw [iha hf (show depth a ≤ k by omega) (show depth a ≤ k' by omega)]
 | loop a => intro k k' F S hf; cases hf
 | rng x ps asg body => intro k k' F S hf; cases hf
theorem EvQ_flat {E : Env} {c : ACode} {F : Fr} {S : St} {Q : Ex → Fr → St → Prop} {n : Nat} (h : EvQ E c F S Q) (hf : flat c = true) (hd : depth c ≤ n) : ∃ r, (∃ K, ∀ j, K ≤ j → codeN E.meth (callN E j) n c F S = some r) ∧ Q r.1 r.2.1 r.2.2 := by
 obtain ⟨r, ⟨K, h1⟩, h2⟩ := h
 refine ⟨r, ⟨K, fun j hj => ?_⟩, h2⟩
 rw [codeN_flat hf hd (show depth c ≤ max K n by omega), h1 j (max K n) hj (by omega)]
theorem chk_fold {p : Prg} {st : Int} : encPrg p ++ [.int .i64 st] = encChk p st := rfl
@[go_sem] theorem strip_Chk {p : Prg} {st : Int} : (encChk p st).map strip = encChk p st := by rw [encChk, List.map_append, strip_Prg]; rfl
@[go_sem] theorem low_Chk {p : Prg} {st : Int} {n : Nat} : lowL n (encChk p st) = true := by cases p; simp [encChk, encPrg, lowL, low]
theorem strip_clone {b : Bool} {l : List ByteArray} (h : b = true → l = []) : strip (cloneV b (l.map encS)) = .slice (nk b) (l.map encS) := by
 cases b with
 | true => rw [h rfl]; rfl
 | false => rfl
def chkPrg (p : Prg) : Bool := vHead p && (chkBody p p.body p.params 0).1
theorem check_ok {p : Prg} (hp : OkPrg p) : Sp theEnv 45 [.agg (encPrg p)] (.int .i64 (if chkPrg p = true then 0 else 1)) := {
 a := by simp only [go_sem, Nat.reduceEqDiff, Nat.reduceAdd, Nat.reduceLeDiff, Nat.reduceMul, Nat.reduceSub, Int.reduceLT, Int.reduceLE, Int.reduceEq, Int.reduceAdd, Int.reduceNeg, reduceIte, reduceCtorEq, Nat.reduceLT]
 l := fun n => by simp only [go_sem, Nat.reduceEqDiff, Nat.reduceAdd, Nat.reduceLeDiff, Nat.reduceMul, Nat.reduceSub, Int.reduceLT, Int.reduceLE, Int.reduceEq, Int.reduceAdd, Int.reduceNeg, reduceIte, reduceCtorEq, Nat.reduceLT]
 s := by
  intro S
  have hx : theEnv.ext 45 = some (guardH theMeth 1 pre45 post45 2 4 156) := rfl
  obtain ⟨⟨e1, F1, S1⟩, ⟨K1, h1⟩, he1, hF1, hS1⟩ := EvQ_flat (n := 60) (EvQ_run (E := theEnv) (c := pre45) (F := args0 [.agg (encPrg p)]) (S := ⟨[], none⟩ :: S) (Q := fun e F S' => e = .nrm ∧ F = put (put (args0 [.agg (encPrg p)]) 1 (.ptr S.length 0 0)) 2 (.ptr S.length 1 0) ∧ S' = ⟨[encPrg p, [.int .i64 0]], none⟩ :: S) (by
   simp only [pre45, go_sem, Nat.reduceEqDiff, Nat.reduceAdd, Nat.reduceLeDiff, Nat.reduceMul, Nat.reduceSub, Int.reduceLT, Int.reduceLE, Int.reduceEq, Int.reduceAdd, Int.reduceNeg, reduceIte, reduceCtorEq, Nat.reduceLT])) rfl (by decide)
  simp only at he1 hF1 hS1
  subst he1 hF1 hS1
  obtain ⟨⟨e2, F2, S2⟩, ⟨K2, h2⟩, hQ⟩ := EvQ_flat (n := 60) (EvQ_run (E := theEnv) (c := post45) (F := put (put (put (args0 [.agg (encPrg p)]) 1 (.ptr S.length 0 0)) 2 (.ptr S.length 1 0)) 4 .undef) (S := ⟨[encPrg p, [.int .i64 0]], none⟩ :: S)
   (Q := fun e F S' => F 2 = .ptr S.length 1 0 ∧ (∃ B, S' = ⟨encPrg p :: [.int .i64 0] :: B, none⟩ :: S) ∧ e = if chkPrg p = true then .ret else .pan stop) (by
   have hh := head_ok (p := p) (st := 0) (S := ⟨[encPrg p, [.int .i64 0], encChk p 0], none⟩ :: S) (l := S.length) (ci := 2) hp (by simp only [go_sem, Nat.reduceEqDiff, Nat.reduceAdd, Nat.reduceLeDiff, Nat.reduceMul, Nat.reduceSub, Int.reduceLT, Int.reduceLE, Int.reduceEq, Int.reduceAdd, Int.reduceNeg, reduceIte, reduceCtorEq, Nat.reduceLT])
   simp only [post45, go_sem, Nat.reduceEqDiff, Nat.reduceAdd, Nat.reduceLeDiff, Nat.reduceMul, Nat.reduceSub, Int.reduceLT, Int.reduceLE, Int.reduceEq, Int.reduceAdd, Int.reduceNeg, reduceIte, reduceCtorEq, Nat.reduceLT, chk_fold, CallP hh]
   split
   ·rename_i hv
    have hlen : (p.params.length : Int) ≤ 2 := by
     simp only [vHead, Bool.and_eq_true, decide_eq_true_eq] at hv
     exact hv.1.1.1
    have hb := body_ok hp (show p.params.length ≤ 1000 by omega) hp.bl (fun s hs => stm_ok (l := S.length) (ci := 2) hp (by omega) s (hp.bs s hs)) p.params p.pn p.bn 0 (⟨[encPrg p, [.int .i64 0], encChk p 0], none⟩ :: S) (by omega) hp.pz (by simp only [go_sem, Nat.reduceEqDiff, Nat.reduceAdd, Nat.reduceLeDiff, Nat.reduceMul, Nat.reduceSub, Int.reduceLT, Int.reduceLE, Int.reduceEq, Int.reduceAdd, Int.reduceNeg, reduceIte, reduceCtorEq, Nat.reduceLT]) (by omega) (by omega)
    simp only [go_sem, Nat.reduceEqDiff, Nat.reduceAdd, Nat.reduceLeDiff, Nat.reduceMul, Nat.reduceSub, Int.reduceLT, Int.reduceLE, Int.reduceEq, Int.reduceAdd, Int.reduceNeg, reduceIte, reduceCtorEq, Nat.reduceLT] at hb
    simp only [go_sem, Nat.reduceEqDiff, Nat.reduceAdd, Nat.reduceLeDiff, Nat.reduceMul, Nat.reduceSub, Int.reduceLT, Int.reduceLE, Int.reduceEq, Int.reduceAdd, Int.reduceNeg, reduceIte, reduceCtorEq, Nat.reduceLT, (clone_ok p.pn p.params (by omega) hp.pz).call, strip_clone hp.pz, CallP hb, chkPrg, hv]
    split
    ·rename_i hc; simp only [go_sem, Nat.reduceEqDiff, Nat.reduceAdd, Nat.reduceLeDiff, Nat.reduceMul, Nat.reduceSub, Int.reduceLT, Int.reduceLE, Int.reduceEq, Int.reduceAdd, Int.reduceNeg, reduceIte, reduceCtorEq, Nat.reduceLT, hc]
    ·rename_i hc; simp only [go_sem, Nat.reduceEqDiff, Nat.reduceAdd, Nat.reduceLeDiff, Nat.reduceMul, Nat.reduceSub, Int.reduceLT, Int.reduceLE, Int.reduceEq, Int.reduceAdd, Int.reduceNeg, reduceIte, reduceCtorEq, Nat.reduceLT, hc]
   ·rename_i hv
    simp only [chkPrg, hv, go_sem, Nat.reduceEqDiff, Nat.reduceAdd, Nat.reduceLeDiff, Nat.reduceMul, Nat.reduceSub, Int.reduceLT, Int.reduceLE, Int.reduceEq, Int.reduceAdd, Int.reduceNeg, reduceIte, reduceCtorEq, Nat.reduceLT])) rfl (by decide)
  simp only at hQ
  obtain ⟨hF2, ⟨B, rfl⟩, rfl⟩ := hQ
  refine ⟨max K1 K2 + 1, fun j hj => ?_⟩
  obtain ⟨j, rfl⟩ : ∃ m, j = m + 1 := ⟨j - 1, by omega⟩
  simp only [callN, callBody, hx, guardH, List.length_cons, List.length_nil, if_true]
  have e1 := h1 j (by omega)
  have e2 := h2 j (by omega)
  have hm : theEnv.meth = theMeth := rfl
  rw [hm] at e1 e2
  rw [e1]
  simp only [e2]
  cases hc : chkPrg p <;> simp [put_hit, hF2, oneBox, low, strip, stop] }
end Wp
end AM
end Go.Proofs.YtimfbnojmdnlnaaGreat
end
