/- Statements, as the reference checks them; The reference's check, whole; both checks agree. -/
import Derived.Test.YtimfbnojmdnlnaaGreatKM26
set_option linter.unusedVariables false
set_option linter.unusedSimpArgs false
set_option maxRecDepth 100000
section
namespace Go.Proofs.YtimfbnojmdnlnaaGreat
namespace AM
namespace Wp
def cAsgR (p : Prg) (names : List ByteArray) (s : Stm) : Bool := zLoop s && zSet s.test && decide ((s.body.length : Int) = 0) && decide ((s.els.length : Int) = 0) && vCell p names.length s.target && decide ((nodesE s.value : Int) ≤ 64) && exprOk p names.length s.value
mutual
def refStm (p : Prg) : Stm → List ByteArray → Int → Int → Bool × Int
 | s@⟨kind, name, _, _, _, _, _, _, _, _, body, _, els⟩, names, depth, st =>
  if kind = 1 then (if cFor p names s = true then refList p body (names ++ [name]) (depth + 1) st else (false, st))
  else if kind = 2 then (if cIf names s = true then (if (refList p body names depth st).1 = true then refList p els names depth (refList p body names depth st).2 else (false, (refList p body names depth st).2)) else (false, st))
  else if kind = 3 then (cAsgR p names s, st)
  else (false, st)
def refList (p : Prg) : List Stm → List ByteArray → Int → Int → Bool × Int
 | [], _, _, st => (true, st)
 | s :: l, names, depth, st => if 256 < st + 1 ∨ 10 < depth then (false, st + 1) else (if (refStm p s names depth (st + 1)).1 = true then refList p l names depth (refStm p s names depth (st + 1)).2 else (false, (refStm p s names depth (st + 1)).2))
end
section
variable {p : Prg} {s : Stm} {names : List ByteArray} {st depth : Int} {xs ys : List Stm}
theorem refStm_for (h : s.kind = 1) : refStm p s names depth st = if cFor p names s = true then refList p s.body (names ++ [s.name]) (depth + 1) st else (false, st) := by
 cases s; simp only at h; rw [refStm]; simp only [h, if_true]
theorem refStm_if (h : s.kind = 2) : refStm p s names depth st = if cIf names s = true then (if (refList p s.body names depth st).1 = true then refList p s.els names depth (refList p s.body names depth st).2 else (false, (refList p s.body names depth st).2)) else (false, st) := by
 cases s; simp only at h; rw [refStm]
 have h1 : ¬ (2 : Int) = 1 := by decide
 simp only [h, h1, if_true, if_false]
theorem refStm_asg (h : s.kind = 3) : refStm p s names depth st = (cAsgR p names s, st) := by
 cases s; simp only at h; rw [refStm]
 have h1 : ¬ (3 : Int) = 1 := by decide
 have h2 : ¬ (3 : Int) = 2 := by decide
 simp only [h, h1, h2, if_true, if_false]
theorem refStm_bad (h1 : s.kind ≠ 1) (h2 : s.kind ≠ 2) (h3 : s.kind ≠ 3) : refStm p s names depth st = (false, st) := by
 cases s; simp only at h1 h2 h3; rw [refStm]
 simp only [h1, h2, h3, if_false]
theorem refList_cons : refList p (s :: xs) names depth st = if 256 < st + 1 ∨ 10 < depth then (false, st + 1) else (if (refStm p s names depth (st + 1)).1 = true then refList p xs names depth (refStm p s names depth (st + 1)).2 else (false, (refStm p s names depth (st + 1)).2)) := by rw [refList]
theorem refList_app : ∀ {xs : List Stm} {st : Int}, (refList p xs names depth st).1 = true → refList p (xs ++ ys) names depth st = refList p ys names depth (refList p xs names depth st).2
 | [], st, h => by rw [refList]; rfl
 | s :: xs, st, h => by
  rw [List.cons_append, refList_cons, refList_cons]
  rw [refList_cons] at h
  split
  ·rename_i h1
   rw [if_pos h1] at h; cases h
  ·rename_i h1
   rw [if_neg h1] at h
   split
   ·rename_i h2
    rw [if_pos h2] at h
    exact refList_app h
   ·rename_i h2
    rw [if_neg h2] at h; cases h
end
theorem is_shut (l : List ByteArray) (s : ByteArray) (hl : l.length ≤ LIM) : Sp theEnv 104 [.slice .shut (l.map encS), .str s] (.bool (l.any fun t => decide (s = t))) := is_ref false l s hl
theorem zLoop_fold {s : Stm} : (decide (s.name = ⟨#[]⟩) && decide (s.low.parts.length = 0) && decide (s.high.parts.length = 0) && decide (s.step = 0) && decide (s.mark = 0)) = zLoop s := by simp [zLoop]
theorem zSet_fold {x : PSet} : (decide (x.dim = 0) && decide (x.pieces.length = 0)) = zSet x := by simp [zSet]
theorem ref_bound {p : Prg} : ∀ (s : Stm) (names : List ByteArray) (depth st : Int), (refStm p s names depth st).1 = true → st ≤ (refStm p s names depth st).2 ∧ (st ≤ 256 → (refStm p s names depth st).2 ≤ 256) := by
 have list : ∀ (l : List Stm), (∀ s ∈ l, ∀ (names : List ByteArray) (depth st : Int), (refStm p s names depth st).1 = true → st ≤ (refStm p s names depth st).2 ∧ (st ≤ 256 → (refStm p s names depth st).2 ≤ 256)) →
   ∀ (names : List ByteArray) (depth st : Int), (refList p l names depth st).1 = true → st ≤ (refList p l names depth st).2 ∧ (st ≤ 256 → (refList p l names depth st).2 ≤ 256) := by
  intro l
  induction l with
  | nil => intro _ names depth st _; rw [refList]; simp
  | cons s l ih =>
   intro h names depth st hr
   rw [refList_cons] at hr ⊢
   split at hr
   ·cases hr
   ·rename_i h1
    rw [if_neg h1]
    split at hr
    ·rename_i h2
     rw [if_pos h2]
     have a := h s List.mem_cons_self names depth (st + 1) h2
     have b := ih (fun s hs => h s (List.mem_cons_of_mem _ hs)) names depth _ hr
     omega
    ·cases hr
 refine Stm.ind fun s ihb ihe names depth st hr => ?_
 by_cases h1 : s.kind = 1
 ·rw [refStm_for h1] at hr ⊢
  split at hr
  ·rename_i h2; rw [if_pos h2]; exact list _ ihb _ _ _ hr
  ·cases hr
 by_cases h2 : s.kind = 2
 ·rw [refStm_if h2] at hr ⊢
  split at hr
  ·rename_i h3
   rw [if_pos h3]
   split at hr
   ·rename_i h4
    rw [if_pos h4]
    have a := list _ ihb _ _ _ h4
    have b := list _ ihe _ _ _ hr
    omega
   ·cases hr
  ·cases hr
 by_cases h3 : s.kind = 3
 ·rw [refStm_asg h3]; simp
 ·rw [refStm_bad h1 h2 h3] at hr; cases hr
theorem refl_bound {p : Prg} {names : List ByteArray} {depth : Int} : ∀ {l : List Stm} {st : Int}, (refList p l names depth st).1 = true → st ≤ (refList p l names depth st).2 ∧ (st ≤ 256 → (refList p l names depth st).2 ≤ 256)
 | [], st, _ => by rw [refList]; simp
 | s :: l, st, hr => by
  rw [refList_cons] at hr ⊢
  split at hr
  ·cases hr
  ·rename_i h1
   rw [if_neg h1]
   split at hr
   ·rename_i h2
    rw [if_pos h2]
    have a := ref_bound s names depth (st + 1) h2
    have b := refl_bound hr
    omega
   ·cases hr
def RefBody (p : Prg) (l ci : Nat) (ss : List Stm) : Prop := ∀ (names : List ByteArray) (nb bn : Bool) (depth st : Int) (S : St), (names.length : Int) ≤ 900 + depth → (nb = true → names = []) → getBox S l ci = some (encChk p st) → 0 ≤ st → st ≤ 256 → 0 ≤ depth → depth ≤ 11 →
 CallIs theEnv (.fn 105) [.ptr l ci 0, .slice (nk bn) (ss.map encStm), .slice (nk nb) (names.map encS), .int .i64 depth] S (.ret (.bool (refList p ss names depth st).1)) (setBox S l ci (encChk p (refList p ss names depth st).2))
def RefStmt (p : Prg) (l ci : Nat) (s : Stm) : Prop := ∀ (names : List ByteArray) (nb : Bool) (depth st : Int) (S : St), (names.length : Int) ≤ 900 + depth → (nb = true → names = []) → getBox S l ci = some (encChk p st) → 0 ≤ st → st ≤ 256 → 0 ≤ depth → depth ≤ 10 →
 CallIs theEnv (.fn 140) [.ptr l ci 0, .agg (encStm s), .slice (nk nb) (names.map encS), .int .i64 depth] S (.ret (.bool (refStm p s names depth st).1)) (setBox S l ci (encChk p (refStm p s names depth st).2))
theorem ref_stm {p : Prg} {l ci : Nat} (hp : OkPrg p) {s : Stm} (hs : OkStm s) (hc : cntE s.value ≤ 1000000000) (hb : RefBody p l ci s.body) (he : RefBody p l ci s.els) : RefStmt p l ci s := by
 intro names nb depth st S hn hnb hg h0 h256 hd0 hd
 refine CallIs.fn rfl rfl rfl ?_
 have g1 := fun T => getBox_up (T := T) hg
 have g2 := fun T v => setBox_up (T := T) (v := v) hg
 have g3 : ∀ v, dz (some v) = some v → getBox (setBox S l ci v) l ci = some v := fun v hv => getBox_set hv hg
 have g5 := fun T v hv => getBox_up (T := T) (g3 v hv)
 have g7 : ∀ T v w, setBox (T :: setBox S l ci v) l ci w = T :: setBox S l ci w := fun T v w => by rw [setBox_below (by rw [len_setBox]; have := getBox_lt hg; omega), setBox_setBox]
 have hself := setBox_self hg
 simp only [a140, c140, go_sem, Nat.reduceEqDiff, Nat.reduceAdd, Nat.reduceLeDiff, Nat.reduceMul, Nat.reduceSub, Int.reduceLT, Int.reduceLE, Int.reduceEq, Int.reduceAdd, Int.reduceNeg, reduceIte, reduceCtorEq, Nat.reduceLT, (zeroRef_ok _).call, (zeroExp_ok _).callG, zLoop_fold, zSet_fold]
 by_cases h3 : s.kind = 3
 ·have hcell := fun T => cell_ref (n := (names.length : Int)) hs.target' (g1 T)
  have hexp := fun T => expr_ref (p := p) (st := st) (n := (names.length : Int)) s.value hs.value' _ (g1 T)
  rw [refStm_asg h3]
  simp only [go_sem, Nat.reduceEqDiff, Nat.reduceAdd, Nat.reduceLeDiff, Nat.reduceMul, Nat.reduceSub, Int.reduceLT, Int.reduceLE, Int.reduceEq, Int.reduceAdd, Int.reduceNeg, reduceIte, reduceCtorEq, Nat.reduceLT, h3, CallGP (hcell _), (nodes_ref s.value hs.value' hc).callG, CallGP (hexp _), hself, cAsgR]
 by_cases h2 : s.kind = 2
 ·rw [refStm_if h2]
  have hbd := fun T => hb names nb s.bn depth st (T :: S) (by omega) hnb (g1 T) h0 h256 hd0 (by omega)
  simp only [g2] at hbd
  cases hE : (zLoop s && (zRef s.target && zExp s.value) && vSet s.test && decide (s.test.dim = (names.length : Int))) with
  | false =>
   have hci : cIf names s = false := by rw [← hE]; simp only [cIf, Bool.and_assoc]
   simp only [go_sem, Nat.reduceEqDiff, Nat.reduceAdd, Nat.reduceLeDiff, Nat.reduceMul, Nat.reduceSub, Int.reduceLT, Int.reduceLE, Int.reduceEq, Int.reduceAdd, Int.reduceNeg, reduceIte, reduceCtorEq, Nat.reduceLT, h2, (set_ref _ hs.test').callG, hE, hself, hci]
  | true =>
   have hci : cIf names s = true := by rw [← hE]; simp only [cIf, Bool.and_assoc]
   cases hr : (refList p s.body names depth st).1 with
   | false => simp only [go_sem, Nat.reduceEqDiff, Nat.reduceAdd, Nat.reduceLeDiff, Nat.reduceMul, Nat.reduceSub, Int.reduceLT, Int.reduceLE, Int.reduceEq, Int.reduceAdd, Int.reduceNeg, reduceIte, reduceCtorEq, Nat.reduceLT, h2, (set_ref _ hs.test').callG, hE, CallP (hbd _), hr, hci]
   | true =>
    have hst : 0 ≤ (refList p s.body names depth st).2 ∧ (refList p s.body names depth st).2 ≤ 256 := by have := refl_bound hr; omega
    have hed := fun T => he names nb s.en depth (refList p s.body names depth st).2 (T :: setBox S l ci (encChk p (refList p s.body names depth st).2)) (by omega) hnb (g5 T _ rfl) hst.1 hst.2 hd0 (by omega)
    simp only [g7] at hed
    simp only [go_sem, Nat.reduceEqDiff, Nat.reduceAdd, Nat.reduceLeDiff, Nat.reduceMul, Nat.reduceSub, Int.reduceLT, Int.reduceLE, Int.reduceEq, Int.reduceAdd, Int.reduceNeg, reduceIte, reduceCtorEq, Nat.reduceLT, h2, (set_ref _ hs.test').callG, hE, CallP (hbd _), hr, hci, CallP (hed _)]
 by_cases h1 : s.kind = 1
 ·rw [refStm_for h1]
  have hbl := bound_ref s.low (names.length : Int) hs.low'
  have hbh := bound_ref s.high (names.length : Int) hs.high'
  have hci : cFor p names s = ((vName s.name && isNew names s.name && arrNew p s.name) && vBound names.length s.low && vBound names.length s.high && (decide (1 ≤ s.step) && decide (s.step ≤ 64) && decide (0 ≤ s.mark) && decide (s.mark ≤ 2)) &&
   (decide (s.step = 1) || lowOne s.low) && (zSet s.test && zRef s.target && zExp s.value && decide ((s.els.length : Int) = 0))) := rfl
  simp only [go_sem, Nat.reduceEqDiff, Nat.reduceAdd, Nat.reduceLeDiff, Nat.reduceMul, Nat.reduceSub, Int.reduceLT, Int.reduceLE, Int.reduceEq, Int.reduceAdd, Int.reduceNeg, reduceIte, reduceCtorEq, Nat.reduceLT, h1, (name_ref _).callG, (is_ref nb names s.name (le_lim (by omega))).callG]
  rw [Run_if]
  simp only [go_sem, Nat.reduceEqDiff, Nat.reduceAdd, Nat.reduceLeDiff, Nat.reduceMul, Nat.reduceSub, Int.reduceLT, Int.reduceLE, Int.reduceEq, Int.reduceAdd, Int.reduceNeg, reduceIte, reduceCtorEq, Nat.reduceLT]
  have hck := fun T => hb (names ++ [s.name]) false s.bn (depth + 1) st (T :: S) (by simp; omega) (by simp) (g1 T) h0 h256 (by omega) (by omega)
  simp only [g2, nk_false] at hck
  have hwd : IntKind.i64.wrap (depth + 1) = depth + 1 := wrap64 (by omega) (by omega)
  have hlow : lowOne s.low = match s.low.parts with | [q] => (match q.rows with | [r] => decide (r.div = 1) | _ => false) | _ => false := rfl
  have happ1 : ∀ k, appO 9 1 16 (.slice (.own 9) []) (.slice k (names.map encS)) = some (.slice (.own 9) (names.map encS)) := fun k => appO_own (lens_S names) (by simp; omega) (by simp; omega)
  have happ2 : ∀ k, appO 9 1 16 (.slice (.own 9) (names.map encS)) (.slice k [[.str s.name]]) = some (.slice (.own 9) ((names ++ [s.name]).map encS)) := fun k => by
   rw [List.map_append]; exact appO_own rfl (by simp; omega) (by simp; omega)
  split
  ·rename_i hx
   have : cFor p names s = false := by rw [hci]; simp only [isNew]; grind
   simp only [this, Bool.false_eq_true, if_false, hself, and_self]
  ·rename_i hx
   simp only [go_sem, Nat.reduceEqDiff, Nat.reduceAdd, Nat.reduceLeDiff, Nat.reduceMul, Nat.reduceSub, Int.reduceLT, Int.reduceLE, Int.reduceEq, Int.reduceAdd, Int.reduceNeg, reduceIte, reduceCtorEq, Nat.reduceLT, g1]
   refine Run_all p.arrays (fun a => !decide (a.name = s.name)) (fun S' => ∃ B, S' = ⟨encStm s :: B, none⟩ :: S) [0, 2, 3, 5, 9, 10, 11, 12, 64, 95] hp.al (by simp only [go_sem, Nat.reduceEqDiff, Nat.reduceAdd, Nat.reduceLeDiff, Nat.reduceMul, Nat.reduceSub, Int.reduceLT, Int.reduceLE, Int.reduceEq, Int.reduceAdd, Int.reduceNeg, reduceIte, reduceCtorEq, Nat.reduceLT]) (by simp only [go_sem, Nat.reduceEqDiff, Nat.reduceAdd, Nat.reduceLeDiff, Nat.reduceMul, Nat.reduceSub, Int.reduceLT, Int.reduceLE, Int.reduceEq, Int.reduceAdd, Int.reduceNeg, reduceIte, reduceCtorEq, Nat.reduceLT]) rfl rfl rfl (by simp only [go_sem, Nat.reduceEqDiff, Nat.reduceAdd, Nat.reduceLeDiff, Nat.reduceMul, Nat.reduceSub, Int.reduceLT, Int.reduceLE, Int.reduceEq, Int.reduceAdd, Int.reduceNeg, reduceIte, reduceCtorEq, Nat.reduceLT]) ⟨_, rfl⟩ ?_ ?_
   ·rintro k F _ a ha hm ⟨B, rfl⟩ hi hkept hall
    simp only [go_sem, Nat.reduceEqDiff, Nat.reduceAdd, Nat.reduceLeDiff, Nat.reduceMul, Nat.reduceSub, Int.reduceLT, Int.reduceLE, Int.reduceEq, Int.reduceAdd, Int.reduceNeg, reduceIte, reduceCtorEq, Nat.reduceLT] at hkept
    simp only [go_sem, Nat.reduceEqDiff, Nat.reduceAdd, Nat.reduceLeDiff, Nat.reduceMul, Nat.reduceSub, Int.reduceLT, Int.reduceLE, Int.reduceEq, Int.reduceAdd, Int.reduceNeg, reduceIte, reduceCtorEq, Nat.reduceLT, hkept, hi, iaO_map ha, Run_if]
    rw [← List.not_any_eq_all_not] at hall
    split
    ·rename_i hn
     have : cFor p names s = false := by rw [hci]; simp only [arrNew]; grind
     simp only [go_sem, Nat.reduceEqDiff, Nat.reduceAdd, Nat.reduceLeDiff, Nat.reduceMul, Nat.reduceSub, Int.reduceLT, Int.reduceLE, Int.reduceEq, Int.reduceAdd, Int.reduceNeg, reduceIte, reduceCtorEq, Nat.reduceLT, this, hself]
    ·rename_i hn
     simp [hn]
   ·rintro F _ hall ⟨B, rfl⟩ hkept
    rw [← List.not_any_eq_all_not] at hall
    simp only [go_sem, Nat.reduceEqDiff, Nat.reduceAdd, Nat.reduceLeDiff, Nat.reduceMul, Nat.reduceSub, Int.reduceLT, Int.reduceLE, Int.reduceEq, Int.reduceAdd, Int.reduceNeg, reduceIte, reduceCtorEq, Nat.reduceLT] at hkept
    simp only [go_sem, Nat.reduceEqDiff, Nat.reduceAdd, Nat.reduceLeDiff, Nat.reduceMul, Nat.reduceSub, Int.reduceLT, Int.reduceLE, Int.reduceEq, Int.reduceAdd, Int.reduceNeg, reduceIte, reduceCtorEq, Nat.reduceLT, hkept, hbl.call, hbh.callG]
    rw [Run_if]
    simp only [go_sem, Nat.reduceEqDiff, Nat.reduceAdd, Nat.reduceLeDiff, Nat.reduceMul, Nat.reduceSub, Int.reduceLT, Int.reduceLE, Int.reduceEq, Int.reduceAdd, Int.reduceNeg, reduceIte, reduceCtorEq, Nat.reduceLT]
    split
    ·rename_i hx2
     have : cFor p names s = false := by rw [hci]; grind
     simp only [go_sem, Nat.reduceEqDiff, Nat.reduceAdd, Nat.reduceLeDiff, Nat.reduceMul, Nat.reduceSub, Int.reduceLT, Int.reduceLE, Int.reduceEq, Int.reduceAdd, Int.reduceNeg, reduceIte, reduceCtorEq, Nat.reduceLT, this, hself]
    ·rename_i hx2
     by_cases hst : 1 < s.step
     ·by_cases hL : ∃ q, s.low.parts = [q]
      ·obtain ⟨q, hq⟩ := hL
       by_cases hR : ∃ r, q.rows = [r]
       ·obtain ⟨r, hr⟩ := hR
        rw [hq] at hlow
        simp only [hr] at hlow
        simp only [go_sem, Nat.reduceEqDiff, Nat.reduceAdd, Nat.reduceLeDiff, Nat.reduceMul, Nat.reduceSub, Int.reduceLT, Int.reduceLE, Int.reduceEq, Int.reduceAdd, Int.reduceNeg, reduceIte, reduceCtorEq, Nat.reduceLT, hkept, hst, hq, hr, hwd, happ1, happ2, CallP (hck _), Run_if]
        split
        ·rename_i hd1
         have : cFor p names s = false := by rw [hci]; simp only [isNew, arrNew]; grind
         simp only [this, Bool.false_eq_true, if_false, hself, and_self]
        ·rename_i hd1
         have : cFor p names s = true := by rw [hci]; simp only [isNew, arrNew]; grind
         simp only [this, if_true, and_self]
       ·have hr1 : ¬ (q.rows.length : Int) = 1 := fun h => hR (by
         match hx : q.rows, h with
         | [r], _ => exact ⟨r, rfl⟩)
        have hlow' : lowOne s.low = false := by
         rw [hlow, hq]; simp only
         split
         ·rename_i r hr; exact absurd ⟨r, hr⟩ hR
         ·rfl
        simp only [go_sem, Nat.reduceEqDiff, Nat.reduceAdd, Nat.reduceLeDiff, Nat.reduceMul, Nat.reduceSub, Int.reduceLT, Int.reduceLE, Int.reduceEq, Int.reduceAdd, Int.reduceNeg, reduceIte, reduceCtorEq, Nat.reduceLT, hkept, hst, hq, hr1, Run_if]
        have : cFor p names s = false := by rw [hci]; simp only [isNew, arrNew]; grind
        simp only [this, Bool.false_eq_true, if_false, hself, and_self]
      ·have hl1 : ¬ (s.low.parts.length : Int) = 1 := fun h => hL (by
        match hx : s.low.parts, h with
        | [r], _ => exact ⟨r, rfl⟩)
       have hlow' : lowOne s.low = false := by
        rw [hlow]
        split
        ·rename_i r hr; exact absurd ⟨r, hr⟩ hL
        ·rfl
       simp only [go_sem, Nat.reduceEqDiff, Nat.reduceAdd, Nat.reduceLeDiff, Nat.reduceMul, Nat.reduceSub, Int.reduceLT, Int.reduceLE, Int.reduceEq, Int.reduceAdd, Int.reduceNeg, reduceIte, reduceCtorEq, Nat.reduceLT, hkept, hst, hl1, Run_if]
       have : cFor p names s = false := by rw [hci]; simp only [isNew, arrNew]; grind
       simp only [this, Bool.false_eq_true, if_false, hself, and_self]
     ·simp only [go_sem, Nat.reduceEqDiff, Nat.reduceAdd, Nat.reduceLeDiff, Nat.reduceMul, Nat.reduceSub, Int.reduceLT, Int.reduceLE, Int.reduceEq, Int.reduceAdd, Int.reduceNeg, reduceIte, reduceCtorEq, Nat.reduceLT, hkept, hst, hwd, happ1, happ2, CallP (hck _), Run_if]
      have : cFor p names s = true := by rw [hci]; simp only [isNew, arrNew]; grind
      simp only [this, if_true, and_self]
 ·rw [refStm_bad h1 h2 h3]
  simp only [go_sem, Nat.reduceEqDiff, Nat.reduceAdd, Nat.reduceLeDiff, Nat.reduceMul, Nat.reduceSub, Int.reduceLT, Int.reduceLE, Int.reduceEq, Int.reduceAdd, Int.reduceNeg, reduceIte, reduceCtorEq, Nat.reduceLT, h1, h2, h3, hself]
theorem ref_body {p : Prg} {l ci : Nat} {ss : List Stm} (hl : ss.length ≤ LIM) (hs : ∀ s ∈ ss, RefStmt p l ci s) : RefBody p l ci ss := by
 intro names nb bn depth st S hn hnb hb h0 h256 hd0 hd
 refine CallIs.fn rfl rfl rfl ?_
 have g1 := fun T => getBox_up (T := T) hb
 have g3 : ∀ v, dz (some v) = some v → getBox (setBox S l ci v) l ci = some v := fun v hv => getBox_set hv hb
 have g5 := fun T v hv => getBox_up (T := T) (g3 v hv)
 have g7 : ∀ T v w, setBox (T :: setBox S l ci v) l ci w = T :: setBox S l ci w := fun T v w => by rw [setBox_below (by rw [len_setBox]; have := getBox_lt hb; omega), setBox_setBox]
 have hself := setBox_self hb
 simp only [a105, c105, go_sem, Nat.reduceEqDiff, Nat.reduceAdd, Nat.reduceLeDiff, Nat.reduceMul, Nat.reduceSub, Int.reduceLT, Int.reduceLE, Int.reduceEq, Int.reduceAdd, Int.reduceNeg, reduceIte, reduceCtorEq, Nat.reduceLT]
 refine Run_range ss.length [0, 2, 3, 11] [] (fun k vs S' => ∃ B st', S' = ⟨B, none⟩ :: setBox S l ci (encChk p st') ∧ refList p (ss.take k) names depth st = (true, st') ∧ 0 ≤ st' ∧ st' ≤ 256) hl (by simp only [go_sem, Nat.reduceEqDiff, Nat.reduceAdd, Nat.reduceLeDiff, Nat.reduceMul, Nat.reduceSub, Int.reduceLT, Int.reduceLE, Int.reduceEq, Int.reduceAdd, Int.reduceNeg, reduceIte, reduceCtorEq, Nat.reduceLT]) (by simp only [go_sem, Nat.reduceEqDiff, Nat.reduceAdd, Nat.reduceLeDiff, Nat.reduceMul, Nat.reduceSub, Int.reduceLT, Int.reduceLE, Int.reduceEq, Int.reduceAdd, Int.reduceNeg, reduceIte, reduceCtorEq, Nat.reduceLT]) rfl rfl rfl rfl (by simp only [go_sem, Nat.reduceEqDiff, Nat.reduceAdd, Nat.reduceLeDiff, Nat.reduceMul, Nat.reduceSub, Int.reduceLT, Int.reduceLE, Int.reduceEq, Int.reduceAdd, Int.reduceNeg, reduceIte, reduceCtorEq, Nat.reduceLT]) ⟨_, st, by rw [hself], by rw [List.take_zero, refList], h0, h256⟩ ?_ ?_
 ·rintro k F _ hk ⟨B, st', rfl, hc, h0', h256'⟩ hi hkept
  simp only [go_sem, Nat.reduceEqDiff, Nat.reduceAdd, Nat.reduceLeDiff, Nat.reduceMul, Nat.reduceSub, Int.reduceLT, Int.reduceLE, Int.reduceEq, Int.reduceAdd, Int.reduceNeg, reduceIte, reduceCtorEq, Nat.reduceLT] at hkept
  obtain ⟨s, hsk⟩ : ∃ s, ss[k]? = some s := ⟨ss[k], List.getElem?_eq_getElem hk⟩
  have hm := List.mem_of_getElem? hsk
  have hw2 : IntKind.i64.wrap (st' + 1) = st' + 1 := wrap64 (by omega) (by omega)
  have hall : refList p ss names depth st = refList p (s :: ss.drop (k + 1)) names depth st' := by
   conv => lhs; rw [cut_at hsk]
   rw [refList_app (by rw [hc]), hc]
  have htake : refList p (ss.take (k + 1)) names depth st = refList p [s] names depth st' := by
   rw [take_snoc hsk, refList_app (by rw [hc]), hc]
  rw [hall, refList_cons]
  rw [refList_cons] at htake
  by_cases hE : 256 < st' + 1 ∨ 10 < depth
  ·have hE' : (decide (256 < st' + 1) || decide (10 < depth)) = true := by simpa using hE
   simp only [go_sem, Nat.reduceEqDiff, Nat.reduceAdd, Nat.reduceLeDiff, Nat.reduceMul, Nat.reduceSub, Int.reduceLT, Int.reduceLE, Int.reduceEq, Int.reduceAdd, Int.reduceNeg, reduceIte, reduceCtorEq, Nat.reduceLT, hkept, hi, iaO_map hsk, g5, g7, hw2, hE', if_pos hE]
  ·have hE' : (decide (256 < st' + 1) || decide (10 < depth)) = false := by simpa [not_or] using hE
   rw [if_neg hE] at htake
   have hsp := hs s hm names nb depth (st' + 1) (⟨B ++ [encStm s], none⟩ :: setBox S l ci (encChk p (st' + 1))) hn hnb (g5 _ _ rfl) (by omega) (by omega) hd0 (by omega)
   simp only [g7] at hsp
   cases hr : (refStm p s names depth (st' + 1)).1 with
   | true =>
    simp only [go_sem, Nat.reduceEqDiff, Nat.reduceAdd, Nat.reduceLeDiff, Nat.reduceMul, Nat.reduceSub, Int.reduceLT, Int.reduceLE, Int.reduceEq, Int.reduceAdd, Int.reduceNeg, reduceIte, reduceCtorEq, Nat.reduceLT, hkept, hi, iaO_map hsk, g5, g7, hw2, hE', CallP hsp, hr, if_neg hE]
    rw [hr, if_pos rfl, refList] at htake
    have hbd := ref_bound s names depth (st' + 1) hr
    exact ⟨_, _, ⟨rfl, rfl⟩, htake, by omega, hbd.2 (by omega)⟩
   | false =>
    simp only [go_sem, Nat.reduceEqDiff, Nat.reduceAdd, Nat.reduceLeDiff, Nat.reduceMul, Nat.reduceSub, Int.reduceLT, Int.reduceLE, Int.reduceEq, Int.reduceAdd, Int.reduceNeg, reduceIte, reduceCtorEq, Nat.reduceLT, hkept, hi, iaO_map hsk, g5, g7, hw2, hE', CallP hsp, hr, if_neg hE]
 ·rintro F _ ⟨B, st', rfl, hc, _⟩ hkept
  rw [List.take_length] at hc
  simp only [go_sem, Nat.reduceEqDiff, Nat.reduceAdd, Nat.reduceLeDiff, Nat.reduceMul, Nat.reduceSub, Int.reduceLT, Int.reduceLE, Int.reduceEq, Int.reduceAdd, Int.reduceNeg, reduceIte, reduceCtorEq, Nat.reduceLT, hc]
theorem stm_agree {p : Prg} : ∀ (s : Stm) (names : List ByteArray) (depth st : Int), depth = (names.length : Int) - p.params.length → (chkStm p s names st).1 = (refStm p s names depth st).1 ∧ ((chkStm p s names st).1 = true → (chkStm p s names st).2 = (refStm p s names depth st).2) := by
 have list : ∀ (l : List Stm), (∀ s ∈ l, ∀ (names : List ByteArray) (depth st : Int), depth = (names.length : Int) - p.params.length → (chkStm p s names st).1 = (refStm p s names depth st).1 ∧ ((chkStm p s names st).1 = true → (chkStm p s names st).2 = (refStm p s names depth st).2)) →
   ∀ (names : List ByteArray) (depth st : Int), depth = (names.length : Int) - p.params.length → depth ≤ 10 → (chkList p l names st).1 = (refList p l names depth st).1 ∧ ((chkList p l names st).1 = true → (chkList p l names st).2 = (refList p l names depth st).2) := by
  intro l
  induction l with
  | nil => intro _ names depth st _ _; rw [chkList, refList]; simp
  | cons s l ih =>
   intro h names depth st hd h10
   rw [chkList_cons, refList_cons]
   have a := h s List.mem_cons_self names depth (st + 1) hd
   by_cases h1 : st + 1 ≤ 256
   ·have h1' : ¬(256 < st + 1 ∨ 10 < depth) := by omega
    rw [if_pos h1, if_neg h1', ← a.1]
    split
    ·rename_i h2
     rw [← a.2 h2]
     exact ih (fun s hs => h s (List.mem_cons_of_mem _ hs)) names depth _ hd h10
    ·simp
   ·have h1' : 256 < st + 1 ∨ 10 < depth := by omega
    rw [if_neg h1, if_pos h1']; simp
 have body : ∀ (l : List Stm), (∀ s ∈ l, ∀ (names : List ByteArray) (depth st : Int), depth = (names.length : Int) - p.params.length → (chkStm p s names st).1 = (refStm p s names depth st).1 ∧ ((chkStm p s names st).1 = true → (chkStm p s names st).2 = (refStm p s names depth st).2)) →
   ∀ (names : List ByteArray) (depth st : Int), depth = (names.length : Int) - p.params.length → (chkBody p l names st).1 = (refList p l names depth st).1 ∧ ((chkBody p l names st).1 = true → (chkBody p l names st).2 = (refList p l names depth st).2) := by
  intro l h names depth st hd
  unfold chkBody
  by_cases h10 : depth ≤ 10
  ·have : deep p l names = true := by simp only [deep]; simp; omega
   rw [if_pos this]
   exact list l h names depth st hd h10
  ·cases l with
   | nil => simp [deep, chkList, refList]
   | cons s l =>
    have : deep p (s :: l) names = false := by simp only [deep]; simp; omega
    rw [if_neg (by rw [this]; simp), refList_cons, if_pos (show 256 < st + 1 ∨ 10 < depth by omega)]; simp
 refine Stm.ind fun s ihb ihe names depth st hd => ?_
 by_cases h1 : s.kind = 1
 ·rw [chkStm_for h1, refStm_for h1]
  split
  ·exact body _ ihb _ _ _ (by simp; omega)
  ·simp
 by_cases h2 : s.kind = 2
 ·rw [chkStm_if h2, refStm_if h2]
  split
  ·have a := body _ ihb names depth st hd
   rw [← a.1]
   split
   ·rename_i h3
    rw [← a.2 h3]
    exact body _ ihe names depth _ hd
   ·simp
  ·simp
 by_cases h3 : s.kind = 3
 ·rw [chkStm_asg h3, refStm_asg h3]
  refine ⟨?_, fun _ => rfl⟩
  simp only [cAsg, cAsgR]
  have hn := (node_expr (p := p) (n := (names.length : Int)) s.value 0).1
  have h4 := nodes_eq s.value
  rw [hn]
  have : decide ((nodesE s.value : Int) ≤ 64) = decide ((0 : Int) + (cntE s.value : Int) ≤ 64) := by
   rw [decide_eq_decide]
   constructor
   ·intro h; have := h4.2 (by omega); omega
   ·intro h; omega
  rw [this]
  cases exprOk p names.length s.value <;> cases decide ((0 : Int) + (cntE s.value : Int) ≤ 64) <;> simp
 ·rw [chkStm_bad h1 h2 h3, refStm_bad h1 h2 h3]; simp
end Wp
end AM
end Go.Proofs.YtimfbnojmdnlnaaGreat
end
section
namespace Go.Proofs.YtimfbnojmdnlnaaGreat
namespace AM
namespace Wp
inductive SmS : Stm → Prop where
 | mk (x : Stm) (v : cntE x.value ≤ 1000000000) (b : ∀ y ∈ x.body, SmS y) (e : ∀ y ∈ x.els, SmS y) : SmS x
theorem ref_all {p : Prg} {l ci : Nat} (hp : OkPrg p) : ∀ s, OkStm s → SmS s → RefStmt p l ci s := by
 refine Stm.ind fun s ihb ihe hs hm => ?_
 obtain ⟨_, hv, hb, he⟩ := hm
 exact ref_stm hp hs hv (ref_body hs.bn' fun t ht => ihb t ht (hs.body' t ht) (hb t ht)) (ref_body hs.en' fun t ht => ihe t ht (hs.els' t ht) (he t ht))
def arrOk (n : Int) (a : Arr) : Bool := decide ((a.sizes.length : Int) ≤ 3) && a.sizes.all (vOverL n)
def allNames (p : Prg) : List ByteArray := p.params ++ p.arrays.map (·.name)
def refPrg (p : Prg) : Bool := (decide ((p.params.length : Int) ≤ 2) && decide ((p.arrays.length : Int) ≤ 8)) && p.arrays.all (arrOk p.params.length) && hPar [] (allNames p) && (refList p p.body p.params 0 0).1
theorem hArr_split {n : Int} : ∀ {l : List Arr} {acc : List ByteArray}, hArr n acc l = (l.all (arrOk n) && hPar acc (l.map (·.name)))
 | [], acc => rfl
 | a :: l, acc => by
  simp only [hArr, hArr_split (l := l), List.all_cons, List.map_cons, hPar, arrOk]
  cases vName a.name <;> cases isNew acc a.name <;> cases decide ((a.sizes.length : Int) ≤ 3) <;> cases a.sizes.all (vOverL n) <;> simp
theorem prg_agree (p : Prg) : chkPrg p = refPrg p := by
 unfold chkPrg refPrg vHead allNames
 have h := (stm_agree (p := p))
 have hb : (chkBody p p.body p.params 0).1 = (refList p p.body p.params 0 0).1 := by
  unfold chkBody
  have hd : deep p p.body p.params = true := by simp only [deep]; simp
  rw [if_pos hd]
  have list : ∀ (l : List Stm) (st : Int), (chkList p l p.params st).1 = (refList p l p.params 0 st).1 := by
   intro l
   induction l with
   | nil => intro st; rw [chkList, refList]
   | cons s l ih =>
    intro st
    rw [chkList_cons, refList_cons]
    have a := h s p.params 0 (st + 1) (by omega)
    by_cases h1 : st + 1 ≤ 256
    ·have h1' : ¬(256 < st + 1 ∨ 10 < (0 : Int)) := by omega
     rw [if_pos h1, if_neg h1', ← a.1]
     split
     ·rename_i h2
      rw [← a.2 h2]
      exact ih _
     ·rfl
    ·have h1' : 256 < st + 1 ∨ 10 < (0 : Int) := by omega
     rw [if_neg h1, if_pos h1']
  exact list _ _
 rw [hb, hArr_split, hPar_app, List.nil_append]
 cases decide ((p.params.length : Int) ≤ 2) && decide ((p.arrays.length : Int) ≤ 8) <;> cases p.arrays.all (arrOk p.params.length) <;> cases hPar [] p.params <;> simp
theorem valid_ref {p : Prg} (hp : OkPrg p) (hm : ∀ s ∈ p.body, SmS s) : Sp theEnv 65 [.agg (encPrg p)] (.bool (refPrg p)) := by
 refine Sp.fn rfl rfl rfl (by simp only [go_sem, Nat.reduceEqDiff, Nat.reduceAdd, Nat.reduceLeDiff, Nat.reduceMul, Nat.reduceSub, Int.reduceLT, Int.reduceLE, Int.reduceEq, Int.reduceAdd, Int.reduceNeg, reduceIte, reduceCtorEq, Nat.reduceLT]) (by simp only [go_sem, Nat.reduceEqDiff, Nat.reduceAdd, Nat.reduceLeDiff, Nat.reduceMul, Nat.reduceSub, Int.reduceLT, Int.reduceLE, Int.reduceEq, Int.reduceAdd, Int.reduceNeg, reduceIte, reduceCtorEq, Nat.reduceLT, implies_true]) fun S => ?_; simp only [a65, c65, go_sem, Nat.reduceEqDiff, Nat.reduceAdd, Nat.reduceLeDiff, Nat.reduceMul, Nat.reduceSub, Int.reduceLT, Int.reduceLE, Int.reduceEq, Int.reduceAdd, Int.reduceNeg, reduceIte, reduceCtorEq, Nat.reduceLT]
 rw [Run_if]
 simp only [go_sem, Nat.reduceEqDiff, Nat.reduceAdd, Nat.reduceLeDiff, Nat.reduceMul, Nat.reduceSub, Int.reduceLT, Int.reduceLE, Int.reduceEq, Int.reduceAdd, Int.reduceNeg, reduceIte, reduceCtorEq, Nat.reduceLT]
 split
 ·rename_i h
  simp only [refPrg]
  grind
 ·rename_i h
  have hlen : p.params.length ≤ 2 ∧ p.arrays.length ≤ 8 := by grind
  have happ0 : ∀ k, appO 9 1 16 (.slice (.own 9) []) (.slice k (p.params.map encS)) = some (.slice (.own 9) (p.params.map encS)) := fun k => appO_own (lens_S _) (by simp; omega) (by simp; omega)
  simp only [go_sem, Nat.reduceEqDiff, Nat.reduceAdd, Nat.reduceLeDiff, Nat.reduceMul, Nat.reduceSub, Int.reduceLT, Int.reduceLE, Int.reduceEq, Int.reduceAdd, Int.reduceNeg, reduceIte, reduceCtorEq, Nat.reduceLT, happ0]
  refine Run_range p.arrays.length [1, 26] [3] (fun k vs S' => vs = [.slice (.own 9) ((p.params ++ (p.arrays.take k).map (·.name)).map encS)] ∧ (∃ B, S' = ⟨encPrg p :: B, none⟩ :: S) ∧ (p.arrays.take k).all (arrOk p.params.length) = true) hp.al (by simp only [go_sem, Nat.reduceEqDiff, Nat.reduceAdd, Nat.reduceLeDiff, Nat.reduceMul, Nat.reduceSub, Int.reduceLT, Int.reduceLE, Int.reduceEq, Int.reduceAdd, Int.reduceNeg, reduceIte, reduceCtorEq, Nat.reduceLT]) (by simp only [go_sem, Nat.reduceEqDiff, Nat.reduceAdd, Nat.reduceLeDiff, Nat.reduceMul, Nat.reduceSub, Int.reduceLT, Int.reduceLE, Int.reduceEq, Int.reduceAdd, Int.reduceNeg, reduceIte, reduceCtorEq, Nat.reduceLT]) rfl rfl rfl rfl (by simp only [go_sem, Nat.reduceEqDiff, Nat.reduceAdd, Nat.reduceLeDiff, Nat.reduceMul, Nat.reduceSub, Int.reduceLT, Int.reduceLE, Int.reduceEq, Int.reduceAdd, Int.reduceNeg, reduceIte, reduceCtorEq, Nat.reduceLT]) ⟨by simp only [go_sem, Nat.reduceEqDiff, Nat.reduceAdd, Nat.reduceLeDiff, Nat.reduceMul, Nat.reduceSub, Int.reduceLT, Int.reduceLE, Int.reduceEq, Int.reduceAdd, Int.reduceNeg, reduceIte, reduceCtorEq, Nat.reduceLT, List.take_zero], ⟨_, rfl⟩, rfl⟩ ?_ ?_
  ·rintro k F _ hk ⟨hv, ⟨B, rfl⟩, hok⟩ hi hkept
   simp only [go_sem, Nat.reduceEqDiff, Nat.reduceAdd, Nat.reduceLeDiff, Nat.reduceMul, Nat.reduceSub, Int.reduceLT, Int.reduceLE, Int.reduceEq, Int.reduceAdd, Int.reduceNeg, reduceIte, reduceCtorEq, Nat.reduceLT] at hkept hv
   obtain ⟨a, hak⟩ : ∃ a, p.arrays[k]? = some a := ⟨p.arrays[k], List.getElem?_eq_getElem hk⟩
   have ham := List.mem_of_getElem? hak
   have hao := hp.as a ham
   have hkl2 : (p.params ++ (p.arrays.take k).map (·.name)).length ≤ 10 := by simp; omega
   have happ : ∀ K, appO 9 1 16 (.slice (.own 9) ((p.params ++ (p.arrays.take k).map (·.name)).map encS)) (.slice K [[.str a.name]]) = some (.slice (.own 9) (((p.params ++ (p.arrays.take k).map (·.name)) ++ [a.name]).map encS)) := fun K => by
    rw [List.map_append (l₂ := [a.name])]; exact appO_own rfl (by rw [List.length_map]; simp only [List.length_singleton]; omega) (by rw [List.length_map]; simp only [List.length_singleton]; omega)
   simp only [go_sem, Nat.reduceEqDiff, Nat.reduceAdd, Nat.reduceLeDiff, Nat.reduceMul, Nat.reduceSub, Int.reduceLT, Int.reduceLE, Int.reduceEq, Int.reduceAdd, Int.reduceNeg, reduceIte, reduceCtorEq, Nat.reduceLT, hkept, hi, hv, iaO_map hak, happ]
   rw [Run_if]
   simp only [go_sem, Nat.reduceEqDiff, Nat.reduceAdd, Nat.reduceLeDiff, Nat.reduceMul, Nat.reduceSub, Int.reduceLT, Int.reduceLE, Int.reduceEq, Int.reduceAdd, Int.reduceNeg, reduceIte, reduceCtorEq, Nat.reduceLT]
   have hbad : arrOk p.params.length a = false → refPrg p = false := fun h => by
    have : p.arrays.all (arrOk p.params.length) = false := List.all_eq_false.2 ⟨a, ham, by simp [h]⟩
    simp only [refPrg, this, Bool.and_false, Bool.false_and]
   split
   ·rename_i h3
    intro _
    exact (hbad (by simp only [arrOk]; grind)).symm
   ·rename_i h3
    refine Run_all a.sizes (vOverL p.params.length) (fun S' => ∃ B, S' = ⟨encPrg p :: B, none⟩ :: S) [1, 3, 26, 28, 42] hao.l (by simp only [go_sem, Nat.reduceEqDiff, Nat.reduceAdd, Nat.reduceLeDiff, Nat.reduceMul, Nat.reduceSub, Int.reduceLT, Int.reduceLE, Int.reduceEq, Int.reduceAdd, Int.reduceNeg, reduceIte, reduceCtorEq, Nat.reduceLT, hkept, hi]) (by simp only [go_sem, Nat.reduceEqDiff, Nat.reduceAdd, Nat.reduceLeDiff, Nat.reduceMul, Nat.reduceSub, Int.reduceLT, Int.reduceLE, Int.reduceEq, Int.reduceAdd, Int.reduceNeg, reduceIte, reduceCtorEq, Nat.reduceLT, hkept, hi]) rfl rfl rfl (by simp only [go_sem, Nat.reduceEqDiff, Nat.reduceAdd, Nat.reduceLeDiff, Nat.reduceMul, Nat.reduceSub, Int.reduceLT, Int.reduceLE, Int.reduceEq, Int.reduceAdd, Int.reduceNeg, reduceIte, reduceCtorEq, Nat.reduceLT, hkept, hi]) ⟨_, rfl⟩ ?_ ?_
    ·rintro k F2 _ x hx hmx ⟨B, rfl⟩ hi3 hkept3 hall
     simp only [go_sem, Nat.reduceEqDiff, Nat.reduceAdd, Nat.reduceLeDiff, Nat.reduceMul, Nat.reduceSub, Int.reduceLT, Int.reduceLE, Int.reduceEq, Int.reduceAdd, Int.reduceNeg, reduceIte, reduceCtorEq, Nat.reduceLT, hkept, hi] at hkept3 hall
     simp only [go_sem, Nat.reduceEqDiff, Nat.reduceAdd, Nat.reduceLeDiff, Nat.reduceMul, Nat.reduceSub, Int.reduceLT, Int.reduceLE, Int.reduceEq, Int.reduceAdd, Int.reduceNeg, reduceIte, reduceCtorEq, Nat.reduceLT, hkept3, hi3, iaO_map hx, (over_ref x _ (hao.s x hmx)).call, Run_if]
     cases hv2 : vOverL p.params.length x with
     | true => simp only [go_sem, Nat.reduceEqDiff, Nat.reduceAdd, Nat.reduceLeDiff, Nat.reduceMul, Nat.reduceSub, Int.reduceLT, Int.reduceLE, Int.reduceEq, Int.reduceAdd, Int.reduceNeg, reduceIte, reduceCtorEq, Nat.reduceLT]
     | false =>
      simp only [go_sem, Nat.reduceEqDiff, Nat.reduceAdd, Nat.reduceLeDiff, Nat.reduceMul, Nat.reduceSub, Int.reduceLT, Int.reduceLE, Int.reduceEq, Int.reduceAdd, Int.reduceNeg, reduceIte, reduceCtorEq, Nat.reduceLT]
      intros
      exact (hbad (by simp only [arrOk, hall hv2, Bool.and_false])).symm
    ·rintro F2 _ hall ⟨B2, rfl⟩ hkept3
     simp only [go_sem, Nat.reduceEqDiff, Nat.reduceAdd, Nat.reduceLeDiff, Nat.reduceMul, Nat.reduceSub, Int.reduceLT, Int.reduceLE, Int.reduceEq, Int.reduceAdd, Int.reduceNeg, reduceIte, reduceCtorEq, Nat.reduceLT, hkept] at hkept3
     simp only [go_sem, Nat.reduceEqDiff, Nat.reduceAdd, Nat.reduceLeDiff, Nat.reduceMul, Nat.reduceSub, Int.reduceLT, Int.reduceLE, Int.reduceEq, Int.reduceAdd, Int.reduceNeg, reduceIte, reduceCtorEq, Nat.reduceLT, hkept3]
     rw [take_snoc hak]
     refine ⟨by rw [List.map_append (l₂ := [a])]; rfl, ?_⟩
     rw [List.all_append, hok, Bool.true_and, List.all_cons, List.all_nil, Bool.and_true]
     simp only [arrOk, hall, Bool.and_true, decide_eq_true_eq]
     omega
  ·rintro F _ ⟨hv, ⟨B, rfl⟩, hok⟩ hkept
   simp only [go_sem, Nat.reduceEqDiff, Nat.reduceAdd, Nat.reduceLeDiff, Nat.reduceMul, Nat.reduceSub, Int.reduceLT, Int.reduceLE, Int.reduceEq, Int.reduceAdd, Int.reduceNeg, reduceIte, reduceCtorEq, Nat.reduceLT] at hkept hv
   rw [List.take_length] at hok hv
   have hall : p.params ++ p.arrays.map (·.name) = allNames p := rfl
   rw [hall] at hv
   have hnl : (allNames p).length ≤ 10 := by simp [allNames]; omega
   simp only [go_sem, Nat.reduceEqDiff, Nat.reduceAdd, Nat.reduceLeDiff, Nat.reduceMul, Nat.reduceSub, Int.reduceLT, Int.reduceLE, Int.reduceEq, Int.reduceAdd, Int.reduceNeg, reduceIte, reduceCtorEq, Nat.reduceLT, hkept, hv]
   refine Run_range (allNames p).length [1, 3, 56] [] (fun k vs S' => (∃ B, S' = ⟨encPrg p :: B, none⟩ :: S) ∧ hPar [] ((allNames p).take k) = true) (by omega) (by simp only [go_sem, Nat.reduceEqDiff, Nat.reduceAdd, Nat.reduceLeDiff, Nat.reduceMul, Nat.reduceSub, Int.reduceLT, Int.reduceLE, Int.reduceEq, Int.reduceAdd, Int.reduceNeg, reduceIte, reduceCtorEq, Nat.reduceLT]) (by simp only [go_sem, Nat.reduceEqDiff, Nat.reduceAdd, Nat.reduceLeDiff, Nat.reduceMul, Nat.reduceSub, Int.reduceLT, Int.reduceLE, Int.reduceEq, Int.reduceAdd, Int.reduceNeg, reduceIte, reduceCtorEq, Nat.reduceLT]) rfl rfl rfl rfl (by simp only [go_sem, Nat.reduceEqDiff, Nat.reduceAdd, Nat.reduceLeDiff, Nat.reduceMul, Nat.reduceSub, Int.reduceLT, Int.reduceLE, Int.reduceEq, Int.reduceAdd, Int.reduceNeg, reduceIte, reduceCtorEq, Nat.reduceLT, hkept, hv]) ⟨⟨_, rfl⟩, rfl⟩ ?_ ?_
   ·rintro k F2 _ hk ⟨⟨B, rfl⟩, hpar⟩ hi2 hkept2
    simp only [go_sem, Nat.reduceEqDiff, Nat.reduceAdd, Nat.reduceLeDiff, Nat.reduceMul, Nat.reduceSub, Int.reduceLT, Int.reduceLE, Int.reduceEq, Int.reduceAdd, Int.reduceNeg, reduceIte, reduceCtorEq, Nat.reduceLT, hkept, hv] at hkept2
    obtain ⟨s, hsk⟩ : ∃ s, (allNames p)[k]? = some s := ⟨(allNames p)[k], List.getElem?_eq_getElem hk⟩
    have hcut := cutO_hi (n := 1) (k := k) (kk := .i64) (xs := (allNames p).map encS) (lens_S _) (by simp; omega)
    rw [← List.map_take] at hcut
    simp only [go_sem, Nat.reduceEqDiff, Nat.reduceAdd, Nat.reduceLeDiff, Nat.reduceMul, Nat.reduceSub, Int.reduceLT, Int.reduceLE, Int.reduceEq, Int.reduceAdd, Int.reduceNeg, reduceIte, reduceCtorEq, Nat.reduceLT, hkept2, hi2, iaO_map hsk, (name_ref s).call, hcut, (is_shut ((allNames p).take k) s (le_lim (by simp; omega))).callG, Run_if]
    split
    ·rename_i hbad
     intro _
     have : hPar [] (allNames p) = false := by
      rw [cut_at hsk, hPar_app, hpar, Bool.true_and, List.nil_append, hPar]
      simp only [isNew]
      grind
     simp only [refPrg, this, Bool.and_false, Bool.false_and]
    ·rename_i hgood
     rw [take_snoc hsk, hPar_app, hpar, Bool.true_and, List.nil_append, hPar, hPar]
     simp only [isNew]
     grind
   ·rintro F2 _ ⟨⟨B, rfl⟩, hpar⟩ hkept2
    simp only [go_sem, Nat.reduceEqDiff, Nat.reduceAdd, Nat.reduceLeDiff, Nat.reduceMul, Nat.reduceSub, Int.reduceLT, Int.reduceLE, Int.reduceEq, Int.reduceAdd, Int.reduceNeg, reduceIte, reduceCtorEq, Nat.reduceLT, hkept, hv] at hkept2
    rw [List.take_length] at hpar
    have hb := ref_body (l := S.length) (ci := blen B + 1) hp.bl (fun s hs => ref_all hp s (hp.bs s hs) (hm s hs)) p.params p.pn p.bn 0 0 (⟨encPrg p :: (B ++ [encChk p 0]), none⟩ :: S) (by omega) hp.pz (by simp only [go_sem, Nat.reduceEqDiff, Nat.reduceAdd, Nat.reduceLeDiff, Nat.reduceMul, Nat.reduceSub, Int.reduceLT, Int.reduceLE, Int.reduceEq, Int.reduceAdd, Int.reduceNeg, reduceIte, reduceCtorEq, Nat.reduceLT]) (by omega) (by omega) (by omega) (by omega)
    simp only [go_sem, Nat.reduceEqDiff, Nat.reduceAdd, Nat.reduceLeDiff, Nat.reduceMul, Nat.reduceSub, Int.reduceLT, Int.reduceLE, Int.reduceEq, Int.reduceAdd, Int.reduceNeg, reduceIte, reduceCtorEq, Nat.reduceLT] at hb
    simp only [go_sem, Nat.reduceEqDiff, Nat.reduceAdd, Nat.reduceLeDiff, Nat.reduceMul, Nat.reduceSub, Int.reduceLT, Int.reduceLE, Int.reduceEq, Int.reduceAdd, Int.reduceNeg, reduceIte, reduceCtorEq, Nat.reduceLT, hkept2, chk_fold, CallP hb, refPrg, hpar, hok]
    grind
end Wp
end AM
end Go.Proofs.YtimfbnojmdnlnaaGreat
end
