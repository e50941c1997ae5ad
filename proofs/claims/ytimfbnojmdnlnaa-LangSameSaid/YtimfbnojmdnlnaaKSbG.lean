/- Statements, as the program checks them. -/
import Derived.Test.YtimfbnojmdnlnaaKSbF
set_option linter.unusedVariables false
set_option linter.unusedSimpArgs false
set_option maxRecDepth 100000
namespace Go.Proofs.Ytimfbnojmdnlnaa
namespace AM
namespace Wp
def lowOne (b : Bound) : Bool :=
  match b.parts with
  | [q] => (match q.rows with | [r] => decide (r.div = 1) | _ => false)
  | _ => false
def arrNew (p : Prg) (s : ByteArray) : Bool := !(p.arrays.any fun a => decide (a.name = s))
def cFor (p : Prg) (names : List ByteArray) (s : Stm) : Bool :=
  (vName s.name && isNew names s.name && arrNew p s.name) && vBound names.length s.low && vBound names.length s.high && (decide (1 ≤ s.step) && decide (s.step ≤ 64) && decide (0 ≤ s.mark) && decide (s.mark ≤ 2)) &&
    (decide (s.step = 1) || lowOne s.low) && (zSet s.test && zRef s.target && zExp s.value && decide ((s.els.length : Int) = 0))
def cIf (names : List ByteArray) (s : Stm) : Bool := (zLoop s && zRef s.target && zExp s.value) && (vSet s.test && decide (s.test.dim = (names.length : Int)))
def cAsg (p : Prg) (names : List ByteArray) (s : Stm) : Bool := (zLoop s && zSet s.test && decide ((s.body.length : Int) = 0) && decide ((s.els.length : Int) = 0)) && vCell p names.length s.target && (chkNode p names.length s.value 0).1
def deep (p : Prg) (l : List Stm) (names : List ByteArray) : Bool := decide ((l.length : Int) = 0) || decide ((names.length : Int) - (p.params.length : Int) ≤ 10)
mutual
def chkStm (p : Prg) : Stm → List ByteArray → Int → Bool × Int
  | s@⟨kind, name, _, _, _, _, _, _, _, _, body, _, els⟩, names, st =>
    if kind = 1 then (if cFor p names s = true then (if deep p body (names ++ [name]) = true then chkList p body (names ++ [name]) st else (false, st)) else (false, st))
    else if kind = 2 then (if cIf names s = true then (if deep p body names = true then
        (if (chkList p body names st).1 = true then (if deep p els names = true then chkList p els names (chkList p body names st).2 else (false, (chkList p body names st).2)) else (false, (chkList p body names st).2)) else (false, st)) else (false, st))
    else if kind = 3 then (cAsg p names s, st)
    else (false, st)
def chkList (p : Prg) : List Stm → List ByteArray → Int → Bool × Int
  | [], _, st => (true, st)
  | s :: l, names, st => if st + 1 ≤ 256 then (if (chkStm p s names (st + 1)).1 = true then chkList p l names (chkStm p s names (st + 1)).2 else (false, (chkStm p s names (st + 1)).2)) else (false, st + 1)
end
def chkBody (p : Prg) (l : List Stm) (names : List ByteArray) (st : Int) : Bool × Int := if deep p l names = true then chkList p l names st else (false, st)
section
variable {p : Prg} {s : Stm} {names : List ByteArray} {st : Int} {xs ys : List Stm}
theorem chkStm_for (h : s.kind = 1) : chkStm p s names st = if cFor p names s = true then chkBody p s.body (names ++ [s.name]) st else (false, st) := by
  cases s; simp only at h; rw [chkStm]; simp only [h, if_true, chkBody]
theorem chkStm_if (h : s.kind = 2) : chkStm p s names st = if cIf names s = true then (if (chkBody p s.body names st).1 = true then chkBody p s.els names (chkBody p s.body names st).2 else (false, (chkBody p s.body names st).2)) else (false, st) := by
  cases s; simp only at h; rw [chkStm]
  have h1 : ¬ (2 : Int) = 1 := by decide
  simp only [h, h1, if_true, if_false, chkBody]
  split
  · split <;> simp
  · rfl
theorem chkStm_asg (h : s.kind = 3) : chkStm p s names st = (cAsg p names s, st) := by
  cases s; simp only at h; rw [chkStm]
  have h1 : ¬ (3 : Int) = 1 := by decide
  have h2 : ¬ (3 : Int) = 2 := by decide
  simp only [h, h1, h2, if_true, if_false]
theorem chkStm_bad (h1 : s.kind ≠ 1) (h2 : s.kind ≠ 2) (h3 : s.kind ≠ 3) : chkStm p s names st = (false, st) := by
  cases s; simp only at h1 h2 h3; rw [chkStm]
  simp only [h1, h2, h3, if_false]
theorem chkList_cons : chkList p (s :: xs) names st = if st + 1 ≤ 256 then (if (chkStm p s names (st + 1)).1 = true then chkList p xs names (chkStm p s names (st + 1)).2 else (false, (chkStm p s names (st + 1)).2)) else (false, st + 1) := by rw [chkList]
theorem pair_false {α β : Type} {x : Bool × β} (h : ¬ x.1 = true) : x = (false, x.2) := by obtain ⟨a, b⟩ := x; simp at h; rw [h]
theorem chkList_fail : ∀ {xs : List Stm} {st : Int}, (chkList p xs names st).1 = false → chkList p (xs ++ ys) names st = chkList p xs names st
  | [], st, h => by rw [chkList] at h; cases h
  | s :: xs, st, h => by
    rw [List.cons_append, chkList_cons, chkList_cons]
    rw [chkList_cons] at h
    split
    · rename_i h1
      rw [if_pos h1] at h
      split
      · rename_i h2
        rw [if_pos h2] at h
        exact chkList_fail h
      · rfl
    · rfl
theorem chkList_app : ∀ {xs : List Stm} {st : Int}, (chkList p xs names st).1 = true → chkList p (xs ++ ys) names st = chkList p ys names (chkList p xs names st).2
  | [], st, h => by rw [chkList]; rfl
  | s :: xs, st, h => by
    rw [List.cons_append, chkList_cons, chkList_cons]
    rw [chkList_cons] at h
    split
    · rename_i h1
      rw [if_pos h1] at h
      split
      · rename_i h2
        rw [if_pos h2] at h
        exact chkList_app h
      · rename_i h2
        rw [if_neg h2] at h; cases h
    · rename_i h1
      rw [if_neg h1] at h; cases h
end
theorem chk_bound {p : Prg} : ∀ (s : Stm) (names : List ByteArray) (st : Int), (chkStm p s names st).1 = true → st ≤ (chkStm p s names st).2 ∧ (st ≤ 256 → (chkStm p s names st).2 ≤ 256) := by
  have list : ∀ (l : List Stm), (∀ s ∈ l, ∀ (names : List ByteArray) (st : Int), (chkStm p s names st).1 = true → st ≤ (chkStm p s names st).2 ∧ (st ≤ 256 → (chkStm p s names st).2 ≤ 256)) →
      ∀ (names : List ByteArray) (st : Int), (chkList p l names st).1 = true → st ≤ (chkList p l names st).2 ∧ (st ≤ 256 → (chkList p l names st).2 ≤ 256) := by
    intro l
    induction l with
    | nil => intro _ names st _; rw [chkList]; simp
    | cons s l ih =>
      intro h names st hr
      rw [chkList_cons] at hr ⊢
      split at hr
      · rename_i h1
        rw [if_pos h1]
        split at hr
        · rename_i h2
          rw [if_pos h2]
          have a := h s List.mem_cons_self names (st + 1) h2
          have b := ih (fun s hs => h s (List.mem_cons_of_mem _ hs)) names _ hr
          omega
        · cases hr
      · cases hr
  have body : ∀ (l : List Stm), (∀ s ∈ l, ∀ (names : List ByteArray) (st : Int), (chkStm p s names st).1 = true → st ≤ (chkStm p s names st).2 ∧ (st ≤ 256 → (chkStm p s names st).2 ≤ 256)) →
      ∀ (names : List ByteArray) (st : Int), (chkBody p l names st).1 = true → st ≤ (chkBody p l names st).2 ∧ (st ≤ 256 → (chkBody p l names st).2 ≤ 256) := by
    intro l h names st hr
    unfold chkBody at hr ⊢
    split at hr
    · rename_i h1; rw [if_pos h1]; exact list l h names st hr
    · cases hr
  refine Stm.ind fun s ihb ihe names st hr => ?_
  by_cases h1 : s.kind = 1
  · rw [chkStm_for h1] at hr ⊢
    split at hr
    · rename_i h2; rw [if_pos h2]; exact body _ ihb _ _ hr
    · cases hr
  by_cases h2 : s.kind = 2
  · rw [chkStm_if h2] at hr ⊢
    split at hr
    · rename_i h3
      rw [if_pos h3]
      split at hr
      · rename_i h4
        rw [if_pos h4]
        have a := body _ ihb _ _ h4
        have b := body _ ihe _ _ hr
        omega
      · cases hr
    · cases hr
  by_cases h3 : s.kind = 3
  · rw [chkStm_asg h3]; simp
  · rw [chkStm_bad h1 h2 h3] at hr; cases hr

theorem list_bound {p : Prg} {names : List ByteArray} : ∀ {l : List Stm} {st : Int}, (chkList p l names st).1 = true → st ≤ (chkList p l names st).2 ∧ (st ≤ 256 → (chkList p l names st).2 ≤ 256)
  | [], st, _ => by rw [chkList]; simp
  | s :: l, st, hr => by
    rw [chkList_cons] at hr ⊢
    split at hr
    · rename_i h1
      rw [if_pos h1]
      split at hr
      · rename_i h2
        rw [if_pos h2]
        have a := chk_bound s names (st + 1) h2
        have b := list_bound hr
        omega
      · cases hr
    · cases hr
theorem body_bound {p : Prg} {names : List ByteArray} {l : List Stm} {st : Int} (hr : (chkBody p l names st).1 = true) : st ≤ (chkBody p l names st).2 ∧ (st ≤ 256 → (chkBody p l names st).2 ≤ 256) := by
  unfold chkBody at hr ⊢
  split at hr
  · rename_i h1; rw [if_pos h1]; exact list_bound hr
  · cases hr
/-! ### The walks -/
theorem kind_for (s : Stm) (h : s.kind = 1) : Sp theEnv 67 [.agg (encStm s)] (.ifc 174 (.agg (encStm s))) := by
  refine Sp.fn rfl rfl rfl (by simp only [go_sem, Nat.reduceEqDiff, Nat.reduceAdd, Nat.reduceLeDiff, Nat.reduceMul, Nat.reduceSub, Int.reduceLT, Int.reduceLE, Int.reduceEq, Int.reduceAdd, Int.reduceNeg, reduceIte, reduceCtorEq, Nat.reduceLT]) (by simp only [go_sem, Nat.reduceEqDiff, Nat.reduceAdd, Nat.reduceLeDiff, Nat.reduceMul, Nat.reduceSub, Int.reduceLT, Int.reduceLE, Int.reduceEq, Int.reduceAdd, Int.reduceNeg, reduceIte, reduceCtorEq, Nat.reduceLT, implies_true]) fun S => ?_; simp only [a67, c67, go_sem, Nat.reduceEqDiff, Nat.reduceAdd, Nat.reduceLeDiff, Nat.reduceMul, Nat.reduceSub, Int.reduceLT, Int.reduceLE, Int.reduceEq, Int.reduceAdd, Int.reduceNeg, reduceIte, reduceCtorEq, Nat.reduceLT]
  simp only [go_sem, Nat.reduceEqDiff, Nat.reduceAdd, Nat.reduceLeDiff, Nat.reduceMul, Nat.reduceSub, Int.reduceLT, Int.reduceLE, Int.reduceEq, Int.reduceAdd, Int.reduceNeg, reduceIte, reduceCtorEq, Nat.reduceLT, h]
theorem kind_if (s : Stm) (h : s.kind = 2) : Sp theEnv 67 [.agg (encStm s)] (.ifc 175 (.agg (encStm s))) := by
  refine Sp.fn rfl rfl rfl (by simp only [go_sem, Nat.reduceEqDiff, Nat.reduceAdd, Nat.reduceLeDiff, Nat.reduceMul, Nat.reduceSub, Int.reduceLT, Int.reduceLE, Int.reduceEq, Int.reduceAdd, Int.reduceNeg, reduceIte, reduceCtorEq, Nat.reduceLT]) (by simp only [go_sem, Nat.reduceEqDiff, Nat.reduceAdd, Nat.reduceLeDiff, Nat.reduceMul, Nat.reduceSub, Int.reduceLT, Int.reduceLE, Int.reduceEq, Int.reduceAdd, Int.reduceNeg, reduceIte, reduceCtorEq, Nat.reduceLT, implies_true]) fun S => ?_; simp only [a67, c67, go_sem, Nat.reduceEqDiff, Nat.reduceAdd, Nat.reduceLeDiff, Nat.reduceMul, Nat.reduceSub, Int.reduceLT, Int.reduceLE, Int.reduceEq, Int.reduceAdd, Int.reduceNeg, reduceIte, reduceCtorEq, Nat.reduceLT]
  simp only [go_sem, Nat.reduceEqDiff, Nat.reduceAdd, Nat.reduceLeDiff, Nat.reduceMul, Nat.reduceSub, Int.reduceLT, Int.reduceLE, Int.reduceEq, Int.reduceAdd, Int.reduceNeg, reduceIte, reduceCtorEq, Nat.reduceLT, h]
theorem kind_asg (s : Stm) (h : s.kind = 3) : Sp theEnv 67 [.agg (encStm s)] (.ifc 176 (.agg (encStm s))) := by
  refine Sp.fn rfl rfl rfl (by simp only [go_sem, Nat.reduceEqDiff, Nat.reduceAdd, Nat.reduceLeDiff, Nat.reduceMul, Nat.reduceSub, Int.reduceLT, Int.reduceLE, Int.reduceEq, Int.reduceAdd, Int.reduceNeg, reduceIte, reduceCtorEq, Nat.reduceLT]) (by simp only [go_sem, Nat.reduceEqDiff, Nat.reduceAdd, Nat.reduceLeDiff, Nat.reduceMul, Nat.reduceSub, Int.reduceLT, Int.reduceLE, Int.reduceEq, Int.reduceAdd, Int.reduceNeg, reduceIte, reduceCtorEq, Nat.reduceLT, implies_true]) fun S => ?_; simp only [a67, c67, go_sem, Nat.reduceEqDiff, Nat.reduceAdd, Nat.reduceLeDiff, Nat.reduceMul, Nat.reduceSub, Int.reduceLT, Int.reduceLE, Int.reduceEq, Int.reduceAdd, Int.reduceNeg, reduceIte, reduceCtorEq, Nat.reduceLT]
  simp only [go_sem, Nat.reduceEqDiff, Nat.reduceAdd, Nat.reduceLeDiff, Nat.reduceMul, Nat.reduceSub, Int.reduceLT, Int.reduceLE, Int.reduceEq, Int.reduceAdd, Int.reduceNeg, reduceIte, reduceCtorEq, Nat.reduceLT, h]
theorem kind_bad (s : Stm) (h1 : s.kind ≠ 1) (h2 : s.kind ≠ 2) (h3 : s.kind ≠ 3) : SpC theEnv 67 [.agg (encStm s)] false := by
  refine SpC.fn rfl rfl rfl (by simp only [go_sem, Nat.reduceEqDiff, Nat.reduceAdd, Nat.reduceLeDiff, Nat.reduceMul, Nat.reduceSub, Int.reduceLT, Int.reduceLE, Int.reduceEq, Int.reduceAdd, Int.reduceNeg, reduceIte, reduceCtorEq, Nat.reduceLT]) fun S => ?_
  simp only [a67, c67, go_sem, Nat.reduceEqDiff, Nat.reduceAdd, Nat.reduceLeDiff, Nat.reduceMul, Nat.reduceSub, Int.reduceLT, Int.reduceLE, Int.reduceEq, Int.reduceAdd, Int.reduceNeg, reduceIte, reduceCtorEq, Nat.reduceLT, h1, h2, h3, stop]
theorem asg_ok {p : Prg} {st : Int} {s : Stm} {nb : Bool} {names : List ByteArray} {S : St} {l ci : Nat} (hs : OkStm s) (hb : getBox S l ci = some (encChk p st)) :
    CallIs theEnv (.fn 195) [.agg (encStm s), .ptr l ci 0, .slice (nk nb) (names.map encS)] S (outIf (cAsg p names s)) S := by
  refine CallIs.fn rfl rfl rfl ?_
  have g1 := fun T => getBox_up (T := T) hb
  have hlt := getBox_lt hb
  have hcell := fun T => cell_ok (n := (names.length : Int)) hs.target' (g1 T)
  have hnode := fun B => node_ok (p := p) (st := st) (n := (names.length : Int)) (l := l) (ci := ci) (l' := S.length) (ni := 2) (fun h => by omega) s.value hs.value' 0 (⟨[encStm s, encStm s, B], none⟩ :: S) (by omega) (by omega) (g1 _)
  simp only [a195, c195, go_sem, Nat.reduceEqDiff, Nat.reduceAdd, Nat.reduceLeDiff, Nat.reduceMul, Nat.reduceSub, Int.reduceLT, Int.reduceLE, Int.reduceEq, Int.reduceAdd, Int.reduceNeg, reduceIte, reduceCtorEq, Nat.reduceLT, (blank_ok _).call, (unset_ok _).callG, (need_ok _).call, CallP (hcell _)]
  split
  · split
    · have hn := hnode [.int .i64 0] (by simp only [go_sem, Nat.reduceEqDiff, Nat.reduceAdd, Nat.reduceLeDiff, Nat.reduceMul, Nat.reduceSub, Int.reduceLT, Int.reduceLE, Int.reduceEq, Int.reduceAdd, Int.reduceNeg, reduceIte, reduceCtorEq, Nat.reduceLT])
      simp only [go_sem, Nat.reduceEqDiff, Nat.reduceAdd, Nat.reduceLeDiff, Nat.reduceMul, Nat.reduceSub, Int.reduceLT, Int.reduceLE, Int.reduceEq, Int.reduceAdd, Int.reduceNeg, reduceIte, reduceCtorEq, Nat.reduceLT] at hn
      rw [CallP hn (by simp only [go_sem, Nat.reduceEqDiff, Nat.reduceAdd, Nat.reduceLeDiff, Nat.reduceMul, Nat.reduceSub, Int.reduceLT, Int.reduceLE, Int.reduceEq, Int.reduceAdd, Int.reduceNeg, reduceIte, reduceCtorEq, Nat.reduceLT]) (by simp only [go_sem, Nat.reduceEqDiff, Nat.reduceAdd, Nat.reduceLeDiff, Nat.reduceMul, Nat.reduceSub, Int.reduceLT, Int.reduceLE, Int.reduceEq, Int.reduceAdd, Int.reduceNeg, reduceIte, reduceCtorEq, Nat.reduceLT])]
      simp only [go_sem, Nat.reduceEqDiff, Nat.reduceAdd, Nat.reduceLeDiff, Nat.reduceMul, Nat.reduceSub, Int.reduceLT, Int.reduceLE, Int.reduceEq, Int.reduceAdd, Int.reduceNeg, reduceIte, reduceCtorEq, Nat.reduceLT, cAsg]
      grind
    · simp only [go_sem, Nat.reduceEqDiff, Nat.reduceAdd, Nat.reduceLeDiff, Nat.reduceMul, Nat.reduceSub, Int.reduceLT, Int.reduceLE, Int.reduceEq, Int.reduceAdd, Int.reduceNeg, reduceIte, reduceCtorEq, Nat.reduceLT, cAsg]
      grind
  · simp only [go_sem, Nat.reduceEqDiff, Nat.reduceAdd, Nat.reduceLeDiff, Nat.reduceMul, Nat.reduceSub, Int.reduceLT, Int.reduceLE, Int.reduceEq, Int.reduceAdd, Int.reduceNeg, reduceIte, reduceCtorEq, Nat.reduceLT, cAsg]
    grind
theorem if_ok {p : Prg} {st : Int} {s : Stm} {nb : Bool} {names : List ByteArray} {S : St} {l ci : Nat} (hs : OkStm s) (hb : getBox S l ci = some (encChk p st))
    (h1 : ∀ T, CallIs theEnv (.fn 31) [.ptr l ci 0, .slice (nk s.bn) (s.body.map encStm), .slice (nk nb) (names.map encS)] (T :: S) (outIf (chkBody p s.body names st).1) (T :: setBox S l ci (encChk p (chkBody p s.body names st).2)))
    (h2 : (chkBody p s.body names st).1 = true → ∀ T, CallIs theEnv (.fn 31) [.ptr l ci 0, .slice (nk s.en) (s.els.map encStm), .slice (nk nb) (names.map encS)] (T :: setBox S l ci (encChk p (chkBody p s.body names st).2)) (outIf (chkBody p s.els names (chkBody p s.body names st).2).1) (T :: setBox S l ci (encChk p (chkBody p s.els names (chkBody p s.body names st).2).2))) (hk : s.kind = 2) :
    CallIs theEnv (.fn 193) [.agg (encStm s), .ptr l ci 0, .slice (nk nb) (names.map encS)] S (outIf (chkStm p s names st).1) (setBox S l ci (encChk p (chkStm p s names st).2)) := by
  refine CallIs.fn rfl rfl rfl ?_
  have g1 := fun T => getBox_up (T := T) hb
  have hself := setBox_self hb
  rw [chkStm_if hk]
  cases hB : (chkBody p s.body names st).1 with
  | false =>
    have h1' := h1
    simp only [hB] at h1'
    simp only [a193, c193, go_sem, Nat.reduceEqDiff, Nat.reduceAdd, Nat.reduceLeDiff, Nat.reduceMul, Nat.reduceSub, Int.reduceLT, Int.reduceLE, Int.reduceEq, Int.reduceAdd, Int.reduceNeg, reduceIte, reduceCtorEq, Nat.reduceLT, (blank_ok _).call, (plainRef_ok _).callG, (plainExp_ok _).callG, (set_valid _ hs.test').call, (need_ok _).call, CallP (h1' _)]
    have hc : cIf names s = ((zLoop s && zRef s.target && zExp s.value) && (vSet s.test && decide (s.test.dim = (names.length : Int)))) := rfl
    grind
  | true =>
  have h1' := h1
  simp only [hB] at h1'
  simp only [a193, c193, go_sem, Nat.reduceEqDiff, Nat.reduceAdd, Nat.reduceLeDiff, Nat.reduceMul, Nat.reduceSub, Int.reduceLT, Int.reduceLE, Int.reduceEq, Int.reduceAdd, Int.reduceNeg, reduceIte, reduceCtorEq, Nat.reduceLT, (blank_ok _).call, (plainRef_ok _).callG, (plainExp_ok _).callG, (set_valid _ hs.test').call, (need_ok _).call, CallP (h1' _), CallP (h2 hB _)]
  have hc : cIf names s = ((zLoop s && zRef s.target && zExp s.value) && (vSet s.test && decide (s.test.dim = (names.length : Int)))) := rfl
  grind
theorem for_ok {p : Prg} {st : Int} {s : Stm} {nb : Bool} {names : List ByteArray} {S : St} {l ci : Nat} (hp : OkPrg p) (hs : OkStm s) (hb : getBox S l ci = some (encChk p st)) (hn : names.length ≤ 1000000) (hnb : nb = true → names = [])
    (h1 : ∀ T, CallIs theEnv (.fn 31) [.ptr l ci 0, .slice (nk s.bn) (s.body.map encStm), .slice .shut ((names ++ [s.name]).map encS)] (T :: S) (outIf (chkBody p s.body (names ++ [s.name]) st).1) (T :: setBox S l ci (encChk p (chkBody p s.body (names ++ [s.name]) st).2))) (hk : s.kind = 1) :
    CallIs theEnv (.fn 184) [.agg (encStm s), .ptr l ci 0, .slice (nk nb) (names.map encS)] S (outIf (chkStm p s names st).1) (setBox S l ci (encChk p (chkStm p s names st).2)) := by
  refine CallIs.fn rfl rfl rfl ?_
  have g1 := fun T => getBox_up (T := T) hb
  have hlt := getBox_lt hb
  have hself := setBox_self hb
  have hac := fun (B : List (List V)) (h : getBox (⟨B, none⟩ :: S) S.length 1 = some (encStm s)) => arr_contains (b := p.an) hp.al h
  have hnl : names.length ≤ LIM := Nat.le_trans hn (by decide)
  have hbl := bound_ok s.low (names.length : Int) hs.low'
  have hbh := bound_ok s.high (names.length : Int) hs.high'
  simp only [a184, c184, go_sem, Nat.reduceEqDiff, Nat.reduceAdd, Nat.reduceLeDiff, Nat.reduceMul, Nat.reduceSub, Int.reduceLT, Int.reduceLE, Int.reduceEq, Int.reduceAdd, Int.reduceNeg, reduceIte, reduceCtorEq, Nat.reduceLT, (named_ok nb names s.name hnl).call, CallGP (hac [encStm s, encStm s] (by simp only [go_sem, Nat.reduceEqDiff, Nat.reduceAdd, Nat.reduceLeDiff, Nat.reduceMul, Nat.reduceSub, Int.reduceLT, Int.reduceLE, Int.reduceEq, Int.reduceAdd, Int.reduceNeg, reduceIte, reduceCtorEq, Nat.reduceLT])) (by simp only [go_sem, Nat.reduceEqDiff, Nat.reduceAdd, Nat.reduceLeDiff, Nat.reduceMul, Nat.reduceSub, Int.reduceLT, Int.reduceLE, Int.reduceEq, Int.reduceAdd, Int.reduceNeg, reduceIte, reduceCtorEq, Nat.reduceLT]) (by simp only [go_sem, Nat.reduceEqDiff, Nat.reduceAdd, Nat.reduceLeDiff, Nat.reduceMul, Nat.reduceSub, Int.reduceLT, Int.reduceLE, Int.reduceEq, Int.reduceAdd, Int.reduceNeg, reduceIte, reduceCtorEq, Nat.reduceLT]), g1, (need_ok _).call, hbl.call, hbh.call, (unset_ok _).call, (plainRef_ok _).callG, (plainExp_ok _).callG]
  rw [chkStm_for hk]
  have hc : cFor p names s = ((vName s.name && isNew names s.name && arrNew p s.name) && vBound names.length s.low && vBound names.length s.high && (decide (1 ≤ s.step) && decide (s.step ≤ 64) && decide (0 ≤ s.mark) && decide (s.mark ≤ 2)) &&
    (decide (s.step = 1) || lowOne s.low) && (zSet s.test && zRef s.target && zExp s.value && decide ((s.els.length : Int) = 0))) := rfl
  unfold arrNew at hc
  split
  · split
    · split
      · split
        · have hlow : lowOne s.low = match s.low.parts with | [q] => (match q.rows with | [r] => decide (r.div = 1) | _ => false) | _ => false := rfl
          by_cases hst : s.step = 1
          · simp only [go_sem, Nat.reduceEqDiff, Nat.reduceAdd, Nat.reduceLeDiff, Nat.reduceMul, Nat.reduceSub, Int.reduceLT, Int.reduceLE, Int.reduceEq, Int.reduceAdd, Int.reduceNeg, reduceIte, reduceCtorEq, Nat.reduceLT, hst, (unset_ok _).call, (plainRef_ok _).callG, (plainExp_ok _).callG, (need_ok _).call, (clone_ok nb names hn hnb).call, app_clone hn hnb, CallP (h1 _)]
            grind
          · by_cases hL : ∃ q, s.low.parts = [q]
            · obtain ⟨q, hq⟩ := hL
              by_cases hR : ∃ r, q.rows = [r]
              · obtain ⟨r, hr⟩ := hR
                rw [hq] at hlow
                simp only [hr] at hlow
                simp only [go_sem, Nat.reduceEqDiff, Nat.reduceAdd, Nat.reduceLeDiff, Nat.reduceMul, Nat.reduceSub, Int.reduceLT, Int.reduceLE, Int.reduceEq, Int.reduceAdd, Int.reduceNeg, reduceIte, reduceCtorEq, Nat.reduceLT, hst, hq, hr, (unset_ok _).call, (plainRef_ok _).callG, (plainExp_ok _).callG, (need_ok _).call, (clone_ok nb names hn hnb).call, app_clone hn hnb, CallP (h1 _)]
                grind
              · have hr1 : ¬ (q.rows.length : Int) = 1 := fun h => hR (by
                  match hx : q.rows, h with
                  | [r], _ => exact ⟨r, rfl⟩)
                have hlow' : lowOne s.low = false := by
                  rw [hlow, hq]; simp only
                  split
                  · rename_i r hr; exact absurd ⟨r, hr⟩ hR
                  · rfl
                simp only [go_sem, Nat.reduceEqDiff, Nat.reduceAdd, Nat.reduceLeDiff, Nat.reduceMul, Nat.reduceSub, Int.reduceLT, Int.reduceLE, Int.reduceEq, Int.reduceAdd, Int.reduceNeg, reduceIte, reduceCtorEq, Nat.reduceLT, hst, hq, hr1, (need_ok _).call]
                grind
            · have hl1 : ¬ (s.low.parts.length : Int) = 1 := fun h => hL (by
                match hx : s.low.parts, h with
                | [r], _ => exact ⟨r, rfl⟩)
              have hlow' : lowOne s.low = false := by
                rw [hlow]
                split
                · rename_i r hr; exact absurd ⟨r, hr⟩ hL
                · rfl
              simp only [go_sem, Nat.reduceEqDiff, Nat.reduceAdd, Nat.reduceLeDiff, Nat.reduceMul, Nat.reduceSub, Int.reduceLT, Int.reduceLE, Int.reduceEq, Int.reduceAdd, Int.reduceNeg, reduceIte, reduceCtorEq, Nat.reduceLT, hst, hl1, (need_ok _).call]
              grind
        · grind
      · grind
    · grind
  · grind
end Wp
end AM
end Go.Proofs.Ytimfbnojmdnlnaa
