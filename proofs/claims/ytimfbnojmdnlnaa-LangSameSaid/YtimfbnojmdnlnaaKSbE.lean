/- Expressions checked. -/
import Derived.Test.YtimfbnojmdnlnaaKSbD
set_option linter.unusedVariables false
set_option linter.unusedSimpArgs false
set_option maxRecDepth 100000
namespace Go.Proofs.Ytimfbnojmdnlnaa
namespace AM
namespace Wp
def leafOk (p : Prg) (n : Int) (x : Exp) : Bool :=
  if x.op = 0 then decide (-2147483648 ≤ x.k) && decide (x.k < 2147483648) && decide ((x.args.length : Int) = 0)
  else if x.op = 1 then vOverL n x.l && decide ((x.args.length : Int) = 0)
  else decide ((x.args.length : Int) = 0) && vCell p n x.r
def headOk (x : Exp) (m : Int) : Bool := (decide (m ≤ 64) && decide (0 ≤ x.op) && decide (x.op ≤ 7)) && (decide (x.op = 0) || decide (x.k = 0)) && (decide (x.op = 1) || zLin x.l) && (decide (x.op = 2) || zRef x.r)
/-- The program's check of an expression: m nodes before, and how many behind. -/
def chkNode (p : Prg) (n : Int) (x : Exp) (m : Int) : Bool × Int :=
  if headOk x (m + 1) = true then
    if x.op = 0 ∨ x.op = 1 ∨ x.op = 2 then (leafOk p n x, m + 1)
    else match x with
      | ⟨_, _, _, _, _, [a, b]⟩ => if (chkNode p n a (m + 1)).1 = true then chkNode p n b (chkNode p n a (m + 1)).2 else (false, (chkNode p n a (m + 1)).2)
      | _ => (false, m + 1)
  else (false, m + 1)
termination_by SizeOf.sizeOf x
theorem chkNode_two {p : Prg} {n : Int} {x a b : Exp} {m : Int} (hh : headOk x (m + 1) = true) (h0 : x.op ≠ 0) (h1 : x.op ≠ 1) (h2 : x.op ≠ 2) (ha : x.args = [a, b]) :
    chkNode p n x m = if (chkNode p n a (m + 1)).1 = true then chkNode p n b (chkNode p n a (m + 1)).2 else (false, (chkNode p n a (m + 1)).2) := by
  obtain ⟨op, k, l, r, nn, args⟩ := x
  simp only at ha h0 h1 h2
  subst ha
  rw [chkNode]
  simp only [hh, if_true, h0, h1, h2, or_self, if_false]
theorem chkNode_not {p : Prg} {n : Int} {x : Exp} {m : Int} (hh : headOk x (m + 1) = true) (h0 : x.op ≠ 0) (h1 : x.op ≠ 1) (h2 : x.op ≠ 2) (ha : ∀ a b, x.args ≠ [a, b]) :
    chkNode p n x m = (false, m + 1) := by
  obtain ⟨op, k, l, r, nn, args⟩ := x
  simp only at ha h0 h1 h2
  rw [chkNode]
  simp only [hh, if_true, h0, h1, h2, or_self, if_false]
  intro _ _ _ _ _ a b h
  simp only [Exp.mk.injEq] at h
  exact ha _ _ h.2.2.2.2.2
theorem chkNode_leaf {p : Prg} {n : Int} {x : Exp} {m : Int} (hh : headOk x (m + 1) = true) (h : x.op = 0 ∨ x.op = 1 ∨ x.op = 2) : chkNode p n x m = (leafOk p n x, m + 1) := by
  rw [chkNode.eq_def]; simp only [hh, if_true, h]
theorem chkNode_bad {p : Prg} {n : Int} {x : Exp} {m : Int} (hh : headOk x (m + 1) = false) : chkNode p n x m = (false, m + 1) := by
  rw [chkNode.eq_def]; simp [hh]
theorem chkNode_bound {p : Prg} {n : Int} : ∀ (x : Exp) (m : Int), (chkNode p n x m).1 = true → m < (chkNode p n x m).2 ∧ (chkNode p n x m).2 ≤ 64 := by
  refine Exp.ind fun x ih m h => ?_
  cases hh : headOk x (m + 1) with
  | false => rw [chkNode_bad hh] at h; cases h
  | true =>
    have hm : m + 1 ≤ 64 := by simp only [headOk, Bool.and_eq_true, decide_eq_true_eq] at hh; exact hh.1.1.1.1.1
    by_cases h3 : x.op = 0 ∨ x.op = 1 ∨ x.op = 2
    · rw [chkNode_leaf hh h3]; simp only; omega
    · simp only [not_or] at h3
      by_cases hab : ∃ a b, x.args = [a, b]
      · obtain ⟨a, b, hab⟩ := hab
        rw [chkNode_two hh h3.1 h3.2.1 h3.2.2 hab] at h ⊢
        split at h
        · rename_i ha
          have h1 := ih a (by simp [hab]) _ ha
          have h2 := ih b (by simp [hab]) _ h
          rw [if_pos ha]; omega
        · cases h
      · rw [chkNode_not hh h3.1 h3.2.1 h3.2.2 fun a b h => hab ⟨a, b, h⟩] at h; cases h

theorem node_ok {p : Prg} {st n : Int} {l ci l' ni : Nat} (hne : ¬(l = l' ∧ ci = ni)) : ∀ (x : Exp), OkExp x → ∀ (m : Int) (S : St), 0 ≤ m → m ≤ 64 → getBox S l ci = some (encChk p st) → getBox S l' ni = some [.int .i64 m] →
    CallIs theEnv (.fn 197) [.ptr l ci 0, .agg (encExp x), .int .i64 n, .ptr l' ni 0] S (outIf (chkNode p n x m).1) (setBox S l' ni [.int .i64 (chkNode p n x m).2]) := by
  refine Exp.ind fun x ih hx m S hm0 hm1 hb hb' => ?_
  refine CallIs.fn rfl rfl rfl ?_
  have g1 := fun T => getBox_up (T := T) hb'
  have g2 := fun T v => setBox_up (T := T) (v := v) hb'
  have g3 : ∀ v, getBox (setBox S l' ni v) l' ni = some v := fun v => getBox_set hb'
  have g4 : ∀ v, getBox (setBox S l' ni v) l ci = some (encChk p st) := fun v => by rw [getBox_other hne]; exact hb
  have g5 := fun T v => getBox_up (T := T) (g3 v)
  have g6 := fun T v => getBox_up (T := T) (g4 v)
  have g7 : ∀ T v w, setBox (T :: setBox S l' ni v) l' ni w = T :: setBox S l' ni w := fun T v w => by rw [setBox_up (g3 v), setBox_setBox]
  have hw : IntKind.i64.wrap (m + 1) = m + 1 := wrap64 (by omega) (by omega)
  simp only [a197, c197, go_sem, Nat.reduceEqDiff, Nat.reduceAdd, Nat.reduceLeDiff, Nat.reduceMul, Nat.reduceSub, Int.reduceLT, Int.reduceLE, Int.reduceEq, Int.reduceAdd, Int.reduceNeg, reduceIte, reduceCtorEq, Nat.reduceLT, g1, g2, g5, hw, (need_ok _).call, (plainLin_ok _).callG, (plainRef_ok _).callG]
  have bad : headOk x (m + 1) = false → (chkNode p n x m).1 = false ∧ setBox S l' ni [.int .i64 (m + 1)] = setBox S l' ni [.int .i64 (chkNode p n x m).2] := fun hh => by rw [chkNode_bad hh]; exact ⟨rfl, rfl⟩
  split
  · rename_i c1
    split
    · rename_i c2
      split
      · rename_i c3
        split
        · rename_i c4
          have hh : headOk x (m + 1) = true := by simp only [headOk]; grind
          have leaf : (x.op = 0 ∨ x.op = 1 ∨ x.op = 2) → chkNode p n x m = (leafOk p n x, m + 1) := chkNode_leaf hh
          by_cases h0 : x.op = 0
          · simp only [go_sem, Nat.reduceEqDiff, Nat.reduceAdd, Nat.reduceLeDiff, Nat.reduceMul, Nat.reduceSub, Int.reduceLT, Int.reduceLE, Int.reduceEq, Int.reduceAdd, Int.reduceNeg, reduceIte, reduceCtorEq, Nat.reduceLT, h0, (need_ok _).call, leaf (.inl h0), leafOk]
            grind
          by_cases h1 : x.op = 1
          · simp only [go_sem, Nat.reduceEqDiff, Nat.reduceAdd, Nat.reduceLeDiff, Nat.reduceMul, Nat.reduceSub, Int.reduceLT, Int.reduceLE, Int.reduceEq, Int.reduceAdd, Int.reduceNeg, reduceIte, reduceCtorEq, Nat.reduceLT, h1, (need_ok _).call, leaf (.inr (.inl h1)), leafOk, (over_ok _ _ hx.l').call]
            grind
          by_cases h2 : x.op = 2
          · simp only [go_sem, Nat.reduceEqDiff, Nat.reduceAdd, Nat.reduceLeDiff, Nat.reduceMul, Nat.reduceSub, Int.reduceLT, Int.reduceLE, Int.reduceEq, Int.reduceAdd, Int.reduceNeg, reduceIte, reduceCtorEq, Nat.reduceLT, h2, (need_ok _).call, leaf (.inr (.inr h2)), leafOk]
            split
            · rename_i ha
              rw [CallP (cell_ok hx.r' (g6 _ _)) (by simp only [go_sem, Nat.reduceEqDiff, Nat.reduceAdd, Nat.reduceLeDiff, Nat.reduceMul, Nat.reduceSub, Int.reduceLT, Int.reduceLE, Int.reduceEq, Int.reduceAdd, Int.reduceNeg, reduceIte, reduceCtorEq, Nat.reduceLT]) (by simp only [go_sem, Nat.reduceEqDiff, Nat.reduceAdd, Nat.reduceLeDiff, Nat.reduceMul, Nat.reduceSub, Int.reduceLT, Int.reduceLE, Int.reduceEq, Int.reduceAdd, Int.reduceNeg, reduceIte, reduceCtorEq, Nat.reduceLT])]
              simp only [go_sem, Nat.reduceEqDiff, Nat.reduceAdd, Nat.reduceLeDiff, Nat.reduceMul, Nat.reduceSub, Int.reduceLT, Int.reduceLE, Int.reduceEq, Int.reduceAdd, Int.reduceNeg, reduceIte, reduceCtorEq, Nat.reduceLT]
              grind
            · grind
          by_cases hab : ∃ a b, x.args = [a, b]
          · obtain ⟨a, b, hab⟩ := hab
            have hm : m + 1 ≤ 64 := c1.1.1
            have ha := hx.s' a (by simp [hab])
            have hb2 := hx.s' b (by simp [hab])
            have ca := fun T => ih a (by simp [hab]) ha (m + 1) (T :: setBox S l' ni [.int .i64 (m + 1)]) (by omega) hm (g6 T _) (g5 T _)
            simp only [go_sem, Nat.reduceEqDiff, Nat.reduceAdd, Nat.reduceLeDiff, Nat.reduceMul, Nat.reduceSub, Int.reduceLT, Int.reduceLE, Int.reduceEq, Int.reduceAdd, Int.reduceNeg, reduceIte, reduceCtorEq, Nat.reduceLT, h0, h1, h2, (need_ok _).call, hab, CallP (ca _), g7]
            rw [chkNode_two hh h0 h1 h2 hab]
            split
            · rename_i hra
              have hbd := chkNode_bound _ _ hra
              have cb := fun T => ih b (by simp [hab]) hb2 (chkNode p n a (m + 1)).2 (T :: setBox S l' ni [.int .i64 (chkNode p n a (m + 1)).2]) (by omega) hbd.2 (g6 T _) (g5 T _)
              simp only [go_sem, Nat.reduceEqDiff, Nat.reduceAdd, Nat.reduceLeDiff, Nat.reduceMul, Nat.reduceSub, Int.reduceLT, Int.reduceLE, Int.reduceEq, Int.reduceAdd, Int.reduceNeg, reduceIte, reduceCtorEq, Nat.reduceLT, CallP (cb _), g7]
              split <;> simp_all only [Bool.not_eq_true]
            · exact ⟨rfl, rfl⟩
          · have hl : ¬ x.args.length = 2 := fun h => hab (by
              match hx : x.args, h with
              | [a, b], _ => exact ⟨a, b, rfl⟩)
            have hl' : ¬ (x.args.length : Int) = 2 := by omega
            simp only [go_sem, Nat.reduceEqDiff, Nat.reduceAdd, Nat.reduceLeDiff, Nat.reduceMul, Nat.reduceSub, Int.reduceLT, Int.reduceLE, Int.reduceEq, Int.reduceAdd, Int.reduceNeg, reduceIte, reduceCtorEq, Nat.reduceLT, h0, h1, h2, (need_ok _).call, hl']
            rw [chkNode_not hh h0 h1 h2 fun a b h => hab ⟨a, b, h⟩]
            simp only [go_sem, Nat.reduceEqDiff, Nat.reduceAdd, Nat.reduceLeDiff, Nat.reduceMul, Nat.reduceSub, Int.reduceLT, Int.reduceLE, Int.reduceEq, Int.reduceAdd, Int.reduceNeg, reduceIte, reduceCtorEq, Nat.reduceLT]
        · exact bad (by simp only [headOk]; grind)
      · exact bad (by simp only [headOk]; grind)
    · exact bad (by simp only [headOk]; grind)
  · exact bad (by simp only [headOk]; grind)

/-! ### The reference's -/
mutual
def cntE : Exp → Nat
  | ⟨_, _, _, _, _, args⟩ => 1 + cntEs args
def cntEs : List Exp → Nat
  | [] => 0
  | x :: xs => cntE x + cntEs xs
end
mutual
def nodesE : Exp → Nat
  | ⟨_, _, _, _, _, args⟩ => nodesEs 1 args
def nodesEs (n : Nat) : List Exp → Nat
  | [] => n
  | x :: xs => nodesEs (if n < 1000 then n + nodesE x else n) xs
end
theorem nodesEs_snoc {y : Exp} : ∀ {xs : List Exp} {n : Nat}, nodesEs n (xs ++ [y]) = if nodesEs n xs < 1000 then nodesEs n xs + nodesE y else nodesEs n xs
  | [], n => rfl
  | x :: xs, n => by simp only [List.cons_append, nodesEs]; exact nodesEs_snoc
theorem nodesEs_le {n : Nat} : ∀ {xs : List Exp}, n ≤ nodesEs n xs
  | [] => Nat.le_refl _
  | x :: xs => by
    simp only [nodesEs]
    refine Nat.le_trans ?_ nodesEs_le
    split <;> omega
theorem nodes_eq : ∀ x, nodesE x ≤ cntE x ∧ (nodesE x < 1000 → nodesE x = cntE x) := by
  refine Exp.ind fun x ih => ?_
  obtain ⟨op, k, l, r, nn, args⟩ := x
  simp only at ih
  have key : ∀ (xs : List Exp) (n : Nat), (∀ y ∈ xs, nodesE y ≤ cntE y ∧ (nodesE y < 1000 → nodesE y = cntE y)) → nodesEs n xs ≤ n + cntEs xs ∧ (nodesEs n xs < 1000 → nodesEs n xs = n + cntEs xs) := by
    intro xs
    induction xs with
    | nil => intro n _; simp [nodesEs, cntEs]
    | cons x xs ihx =>
      intro n h
      have h1 := h x List.mem_cons_self
      simp only [nodesEs, cntEs]
      by_cases hn : n < 1000
      · rw [if_pos hn]
        have h2 := ihx (n + nodesE x) fun y hy => h y (List.mem_cons_of_mem _ hy)
        refine ⟨by omega, fun h3 => ?_⟩
        have h4 := h2.2 h3
        have : nodesE x < 1000 := by have := nodesEs_le (n := n + nodesE x) (xs := xs); omega
        have := h1.2 this
        omega
      · rw [if_neg hn]
        have h2 := ihx n fun y hy => h y (List.mem_cons_of_mem _ hy)
        refine ⟨by omega, fun h3 => ?_⟩
        have := nodesEs_le (n := n) (xs := xs)
        omega
  exact key args 1 ih
theorem cntEs_mem {y : Exp} : ∀ {xs : List Exp}, y ∈ xs → cntE y ≤ cntEs xs
  | [], h => by cases h
  | x :: xs, h => by
    simp only [cntEs]
    rcases List.mem_cons.1 h with rfl | h
    · omega
    · have := cntEs_mem h; omega
theorem cntEs_len : ∀ {xs : List Exp}, xs.length ≤ cntEs xs
  | [] => Nat.le_refl _
  | x :: xs => by
    have := cntEs_len (xs := xs)
    have : 1 ≤ cntE x := by cases x; simp only [cntE]; omega
    simp only [cntEs, List.length_cons]; omega
theorem cntE_args {x : Exp} : cntE x = 1 + cntEs x.args := by cases x; rfl
theorem nodesE_args {x : Exp} : nodesE x = nodesEs 1 x.args := by cases x; rfl
theorem take_snoc {α : Type} {l : List α} {k : Nat} {x : α} (h : l[k]? = some x) : l.take (k + 1) = l.take k ++ [x] := by
  rw [List.take_add_one, h]; rfl
theorem nodes_ref : ∀ x, OkExp x → cntE x ≤ 1000000000 → Sp theEnv 137 [.agg (encExp x)] (.int .i64 (nodesE x : Int)) := by
  refine Exp.ind fun x ih hx hc => ?_
  refine Sp.fn rfl rfl rfl (by simp only [go_sem, Nat.reduceEqDiff, Nat.reduceAdd, Nat.reduceLeDiff, Nat.reduceMul, Nat.reduceSub, Int.reduceLT, Int.reduceLE, Int.reduceEq, Int.reduceAdd, Int.reduceNeg, reduceIte, reduceCtorEq, Nat.reduceLT]) (by simp only [go_sem, Nat.reduceEqDiff, Nat.reduceAdd, Nat.reduceLeDiff, Nat.reduceMul, Nat.reduceSub, Int.reduceLT, Int.reduceLE, Int.reduceEq, Int.reduceAdd, Int.reduceNeg, reduceIte, reduceCtorEq, Nat.reduceLT, implies_true]) fun S => ?_; simp only [a137, c137, go_sem, Nat.reduceEqDiff, Nat.reduceAdd, Nat.reduceLeDiff, Nat.reduceMul, Nat.reduceSub, Int.reduceLT, Int.reduceLE, Int.reduceEq, Int.reduceAdd, Int.reduceNeg, reduceIte, reduceCtorEq, Nat.reduceLT]
  refine Run_range x.args.length [7] [3] (fun k vs S' => vs = [.int .i64 (nodesEs 1 (x.args.take k) : Int)] ∧ ∃ B, S' = ⟨encExp x :: B, none⟩ :: S) hx.n' (by simp only [go_sem, Nat.reduceEqDiff, Nat.reduceAdd, Nat.reduceLeDiff, Nat.reduceMul, Nat.reduceSub, Int.reduceLT, Int.reduceLE, Int.reduceEq, Int.reduceAdd, Int.reduceNeg, reduceIte, reduceCtorEq, Nat.reduceLT]) (by simp only [go_sem, Nat.reduceEqDiff, Nat.reduceAdd, Nat.reduceLeDiff, Nat.reduceMul, Nat.reduceSub, Int.reduceLT, Int.reduceLE, Int.reduceEq, Int.reduceAdd, Int.reduceNeg, reduceIte, reduceCtorEq, Nat.reduceLT]) rfl rfl rfl rfl (by simp only [go_sem, Nat.reduceEqDiff, Nat.reduceAdd, Nat.reduceLeDiff, Nat.reduceMul, Nat.reduceSub, Int.reduceLT, Int.reduceLE, Int.reduceEq, Int.reduceAdd, Int.reduceNeg, reduceIte, reduceCtorEq, Nat.reduceLT]) ⟨by simp only [go_sem, Nat.reduceEqDiff, Nat.reduceAdd, Nat.reduceLeDiff, Nat.reduceMul, Nat.reduceSub, Int.reduceLT, Int.reduceLE, Int.reduceEq, Int.reduceAdd, Int.reduceNeg, reduceIte, reduceCtorEq, Nat.reduceLT, List.take_zero, nodesEs], ⟨_, rfl⟩⟩ ?_ ?_
  · rintro k F _ hk ⟨hv, B, rfl⟩ hi hkept
    simp only [go_sem, Nat.reduceEqDiff, Nat.reduceAdd, Nat.reduceLeDiff, Nat.reduceMul, Nat.reduceSub, Int.reduceLT, Int.reduceLE, Int.reduceEq, Int.reduceAdd, Int.reduceNeg, reduceIte, reduceCtorEq, Nat.reduceLT] at hkept hv
    obtain ⟨y, hy⟩ : ∃ y, x.args[k]? = some y := ⟨x.args[k], List.getElem?_eq_getElem hk⟩
    have hm := List.mem_of_getElem? hy
    have hcy := cntEs_mem hm
    rw [cntE_args] at hc
    have hn := (nodes_eq y).1
    simp only [go_sem, Nat.reduceEqDiff, Nat.reduceAdd, Nat.reduceLeDiff, Nat.reduceMul, Nat.reduceSub, Int.reduceLT, Int.reduceLE, Int.reduceEq, Int.reduceAdd, Int.reduceNeg, reduceIte, reduceCtorEq, Nat.reduceLT, hkept, hi, hv, iaO_map hy, Run_if, (ih y hm (hx.s' y hm) (by omega)).call, take_snoc hy, nodesEs_snoc]
    split
    · rename_i hlt
      rw [wrap64 (by omega) (by omega), if_pos (by omega)]; simp
    · rw [if_neg (by omega)]
  · rintro F _ ⟨hv, B, rfl⟩ hkept
    simp only [go_sem, Nat.reduceEqDiff, Nat.reduceAdd, Nat.reduceLeDiff, Nat.reduceMul, Nat.reduceSub, Int.reduceLT, Int.reduceLE, Int.reduceEq, Int.reduceAdd, Int.reduceNeg, reduceIte, reduceCtorEq, Nat.reduceLT] at hkept hv
    simp only [go_sem, Nat.reduceEqDiff, Nat.reduceAdd, Nat.reduceLeDiff, Nat.reduceMul, Nat.reduceSub, Int.reduceLT, Int.reduceLE, Int.reduceEq, Int.reduceAdd, Int.reduceNeg, reduceIte, reduceCtorEq, Nat.reduceLT, hkept, hv, List.take_length, nodesE_args]
def exprOk (p : Prg) (n : Int) (x : Exp) : Bool :=
  if x.op = 0 then decide (-2147483648 ≤ x.k) && decide (x.k < 2147483648) && zLin x.l && zRef x.r && decide ((x.args.length : Int) = 0)
  else if x.op = 1 then decide (x.k = 0) && vOverL n x.l && zRef x.r && decide ((x.args.length : Int) = 0)
  else if x.op = 2 then decide (x.k = 0) && zLin x.l && vCell p n x.r && decide ((x.args.length : Int) = 0)
  else if x.op = 3 ∨ x.op = 4 ∨ x.op = 5 ∨ x.op = 6 ∨ x.op = 7 then match x with
    | ⟨_, k, l, r, _, [a, b]⟩ => decide (k = 0) && zLin l && zRef r && exprOk p n a && exprOk p n b
    | _ => false
  else false
termination_by SizeOf.sizeOf x
theorem exprOk_two {p : Prg} {n : Int} {x a b : Exp} (h : x.op = 3 ∨ x.op = 4 ∨ x.op = 5 ∨ x.op = 6 ∨ x.op = 7) (ha : x.args = [a, b]) : exprOk p n x = (decide (x.k = 0) && zLin x.l && zRef x.r && exprOk p n a && exprOk p n b) := by
  obtain ⟨op, k, l, r, nn, args⟩ := x
  simp only at ha h
  subst ha
  rw [exprOk]
  have h0 : ¬op = 0 := by omega
  have h1 : ¬op = 1 := by omega
  have h2 : ¬op = 2 := by omega
  simp only [h0, h1, h2, h, if_true, if_false]
theorem exprOk_not {p : Prg} {n : Int} {x : Exp} (h : x.op = 3 ∨ x.op = 4 ∨ x.op = 5 ∨ x.op = 6 ∨ x.op = 7) (ha : ∀ a b, x.args ≠ [a, b]) : exprOk p n x = false := by
  obtain ⟨op, k, l, r, nn, args⟩ := x
  simp only at ha h
  have h0 : ¬op = 0 := by omega
  have h1 : ¬op = 1 := by omega
  have h2 : ¬op = 2 := by omega
  rw [exprOk]
  · simp only [h0, h1, h2, h, if_true, if_false]
  · intro _ _ _ _ _ a b h
    simp only [Exp.mk.injEq] at h
    exact ha _ _ h.2.2.2.2.2
theorem two_or {x : Exp} : (∃ a b, x.args = [a, b]) ∨ ((∀ a b, x.args ≠ [a, b]) ∧ ¬ (x.args.length : Int) = 2) := by
  by_cases h : x.args.length = 2
  · left
    match hx : x.args, h with
    | [a, b], _ => exact ⟨a, b, rfl⟩
  · right
    exact ⟨fun a b hab => h (by rw [hab]; rfl), by omega⟩
theorem expr_ref {p : Prg} {st n : Int} {l ci : Nat} : ∀ (x : Exp), OkExp x → ∀ (S : St), getBox S l ci = some (encChk p st) →
    CallIs theEnv (.fn 138) [.ptr l ci 0, .agg (encExp x), .int .i64 n] S (.ret (.bool (exprOk p n x))) S := by
  refine Exp.ind fun x ih hx S hb => ?_
  refine CallIs.fn rfl rfl rfl ?_
  have g1 := fun T => getBox_up (T := T) hb
  have hc := fun T => cell_ref (p := p) (st := st) (n := n) hx.r' (g1 T)
  simp only [a138, c138, go_sem, Nat.reduceEqDiff, Nat.reduceAdd, Nat.reduceLeDiff, Nat.reduceMul, Nat.reduceSub, Int.reduceLT, Int.reduceLE, Int.reduceEq, Int.reduceAdd, Int.reduceNeg, reduceIte, reduceCtorEq, Nat.reduceLT]
  by_cases h0 : x.op = 0
  · simp only [go_sem, Nat.reduceEqDiff, Nat.reduceAdd, Nat.reduceLeDiff, Nat.reduceMul, Nat.reduceSub, Int.reduceLT, Int.reduceLE, Int.reduceEq, Int.reduceAdd, Int.reduceNeg, reduceIte, reduceCtorEq, Nat.reduceLT, h0, (zeroLin_ok _).callG, (zeroRef_ok _).callG]
    rw [exprOk.eq_def]; simp only [go_sem, Nat.reduceEqDiff, Nat.reduceAdd, Nat.reduceLeDiff, Nat.reduceMul, Nat.reduceSub, Int.reduceLT, Int.reduceLE, Int.reduceEq, Int.reduceAdd, Int.reduceNeg, reduceIte, reduceCtorEq, Nat.reduceLT, h0]
  by_cases h1 : x.op = 1
  · simp only [go_sem, Nat.reduceEqDiff, Nat.reduceAdd, Nat.reduceLeDiff, Nat.reduceMul, Nat.reduceSub, Int.reduceLT, Int.reduceLE, Int.reduceEq, Int.reduceAdd, Int.reduceNeg, reduceIte, reduceCtorEq, Nat.reduceLT, h1, (over_ref _ _ hx.l').callG, (zeroRef_ok _).callG]
    rw [exprOk.eq_def]; simp only [go_sem, Nat.reduceEqDiff, Nat.reduceAdd, Nat.reduceLeDiff, Nat.reduceMul, Nat.reduceSub, Int.reduceLT, Int.reduceLE, Int.reduceEq, Int.reduceAdd, Int.reduceNeg, reduceIte, reduceCtorEq, Nat.reduceLT, h1]
  by_cases h2 : x.op = 2
  · simp only [go_sem, Nat.reduceEqDiff, Nat.reduceAdd, Nat.reduceLeDiff, Nat.reduceMul, Nat.reduceSub, Int.reduceLT, Int.reduceLE, Int.reduceEq, Int.reduceAdd, Int.reduceNeg, reduceIte, reduceCtorEq, Nat.reduceLT, h2, (zeroLin_ok _).callG, CallGP (hc _)]
    rw [exprOk.eq_def]; simp only [go_sem, Nat.reduceEqDiff, Nat.reduceAdd, Nat.reduceLeDiff, Nat.reduceMul, Nat.reduceSub, Int.reduceLT, Int.reduceLE, Int.reduceEq, Int.reduceAdd, Int.reduceNeg, reduceIte, reduceCtorEq, Nat.reduceLT, h2]
  by_cases h3 : x.op = 3 ∨ x.op = 4 ∨ x.op = 5 ∨ x.op = 6 ∨ x.op = 7
  · rcases two_or (x := x) with ⟨a, b, hab⟩ | ⟨hab, hl⟩
    · have ca := fun T => ih a (by simp [hab]) (hx.s' a (by simp [hab])) _ (g1 T)
      have cb := fun T => ih b (by simp [hab]) (hx.s' b (by simp [hab])) _ (g1 T)
      rw [exprOk_two h3 hab]
      rcases h3 with h | h | h | h | h <;> simp only [go_sem, Nat.reduceEqDiff, Nat.reduceAdd, Nat.reduceLeDiff, Nat.reduceMul, Nat.reduceSub, Int.reduceLT, Int.reduceLE, Int.reduceEq, Int.reduceAdd, Int.reduceNeg, reduceIte, reduceCtorEq, Nat.reduceLT, h, (zeroLin_ok _).callG, (zeroRef_ok _).callG, hab, CallGP (ca _), CallGP (cb _)]
    · rw [exprOk_not h3 hab]
      rcases h3 with h | h | h | h | h <;> simp only [go_sem, Nat.reduceEqDiff, Nat.reduceAdd, Nat.reduceLeDiff, Nat.reduceMul, Nat.reduceSub, Int.reduceLT, Int.reduceLE, Int.reduceEq, Int.reduceAdd, Int.reduceNeg, reduceIte, reduceCtorEq, Nat.reduceLT, h, (zeroLin_ok _).callG, (zeroRef_ok _).callG, hl]
  · have : exprOk p n x = false := by rw [exprOk.eq_def]; simp only [h0, h1, h2, h3, if_false]
    simp only [not_or] at h3
    simp only [go_sem, Nat.reduceEqDiff, Nat.reduceAdd, Nat.reduceLeDiff, Nat.reduceMul, Nat.reduceSub, Int.reduceLT, Int.reduceLE, Int.reduceEq, Int.reduceAdd, Int.reduceNeg, reduceIte, reduceCtorEq, Nat.reduceLT, h0, h1, h2, h3, this]

/-- Both ask the same of an expression. -/
theorem node_expr {p : Prg} {n : Int} : ∀ (x : Exp) (m : Int), (chkNode p n x m).1 = (exprOk p n x && decide (m + cntE x ≤ 64)) ∧ ((chkNode p n x m).1 = true → (chkNode p n x m).2 = m + cntE x) := by
  refine Exp.ind fun x ih m => ?_
  have hcnt := cntE_args (x := x)
  have hz : ((x.args.length : Int) = 0) → cntEs x.args = 0 := fun h => by
    have : x.args = [] := List.length_eq_zero_iff.1 (by omega)
    rw [this]; rfl
  cases hh : headOk x (m + 1) with
  | false =>
    rw [chkNode_bad hh]
    refine ⟨?_, fun h => by cases h⟩
    by_cases hm : m + 1 ≤ 64
    · have he : exprOk p n x = false := by
        simp only [headOk] at hh
        by_cases h3 : x.op = 3 ∨ x.op = 4 ∨ x.op = 5 ∨ x.op = 6 ∨ x.op = 7
        · rcases two_or (x := x) with ⟨a, b, hab⟩ | ⟨hab, hl⟩
          · rw [exprOk_two h3 hab]
            grind
          · exact exprOk_not h3 hab
        · rw [exprOk.eq_def]
          simp only [h3, if_false]
          grind
      simp only [he, Bool.false_and]
    · have : ¬ m + (cntE x : Int) ≤ 64 := by omega
      simp only [this, decide_false, Bool.and_false]
  | true =>
    by_cases h3 : x.op = 0 ∨ x.op = 1 ∨ x.op = 2
    · rw [chkNode_leaf hh h3]
      have hl : leafOk p n x = (exprOk p n x && decide (m + cntE x ≤ 64)) ∧ (leafOk p n x = true → cntEs x.args = 0) := by
        have h0 : leafOk p n x = true → cntEs x.args = 0 := fun h => by
          apply hz
          simp only [leafOk] at h
          grind
        refine ⟨?_, h0⟩
        have h1 : leafOk p n x = exprOk p n x := by
          rw [exprOk.eq_def]
          simp only [leafOk]
          simp only [headOk] at hh
          grind
        rw [h1]
        cases he : exprOk p n x with
        | false => rfl
        | true =>
          have := h0 (by rw [h1, he])
          simp only [headOk, Bool.and_eq_true, decide_eq_true_eq] at hh
          have : m + (cntE x : Int) ≤ 64 := by omega
          simp only [this, decide_true, Bool.and_true]
      exact ⟨hl.1, fun h => by have := hl.2 h; simp only; omega⟩
    · simp only [not_or] at h3
      have h4 : x.op = 3 ∨ x.op = 4 ∨ x.op = 5 ∨ x.op = 6 ∨ x.op = 7 := by simp only [headOk, Bool.and_eq_true, decide_eq_true_eq] at hh; omega
      rcases two_or (x := x) with ⟨a, b, hab⟩ | ⟨hab, hl⟩
      · rw [chkNode_two hh h3.1 h3.2.1 h3.2.2 hab, exprOk_two h4 hab]
        have ha := ih a (by simp [hab]) (m + 1)
        have hc2 : (cntE x : Int) = 1 + cntE a + cntE b := by rw [hcnt, hab]; simp only [cntEs]; omega
        have hhd : (decide (x.k = 0) && zLin x.l && zRef x.r) = true := by
          simp only [headOk] at hh
          grind
        rw [hhd, Bool.true_and]
        cases hea : (chkNode p n a (m + 1)).1 with
        | false =>
          simp only [Bool.false_eq_true, if_false]
          refine ⟨?_, fun h => by cases h⟩
          have := ha.1
          rw [hea] at this
          by_cases hle : m + 1 + (cntE a : Int) ≤ 64
          · simp only [hle, decide_true, Bool.and_true] at this
            rw [← this]; rfl
          · have : ¬ m + (cntE x : Int) ≤ 64 := by omega
            simp only [this, decide_false, Bool.and_false]
        | true =>
          simp only [if_true]
          have h2 := ha.2 hea
          have hb := ih b (by simp [hab]) (chkNode p n a (m + 1)).2
          have h1 := ha.1
          rw [hea] at h1
          have h1' := h1.symm
          simp only [Bool.and_eq_true, decide_eq_true_eq] at h1'
          refine ⟨?_, fun h => by rw [hb.2 h, h2]; omega⟩
          rw [hb.1, h1'.1, Bool.true_and, h2]
          congr 1
          rw [decide_eq_decide]; omega
      · rw [chkNode_not hh h3.1 h3.2.1 h3.2.2 hab, exprOk_not h4 hab]
        exact ⟨rfl, fun h => by cases h⟩
end Wp
end AM
end Go.Proofs.Ytimfbnojmdnlnaa
