/- What the check of statements calls. -/
import Derived.Test.YtimfbnojmdnlnaaKSbE
set_option linter.unusedVariables false
set_option linter.unusedSimpArgs false
set_option maxRecDepth 100000
namespace Go.Proofs.Ytimfbnojmdnlnaa
namespace AM
namespace Wp
/-- The first place where something holds, or -1. -/
def idxI {α : Type} (f : α → Bool) (l : List α) : Int := if l.any f then (l.findIdx f : Int) else -1
theorem idxI_pos {α : Type} {f : α → Bool} {l : List α} : decide (0 ≤ idxI f l) = l.any f := by
  unfold idxI
  cases l.any f <;> simp
theorem idxI_none {α : Type} {f : α → Bool} {l : List α} (h : ∀ (m : Nat) x, l[m]? = some x → f x = false) : idxI f l = -1 := by
  unfold idxI
  rw [if_neg]
  intro h2
  obtain ⟨x, hx, hf⟩ := List.any_eq_true.1 h2
  obtain ⟨m, hm⟩ := List.mem_iff_getElem?.1 hx
  rw [h m x hm] at hf; cases hf
theorem idxI_at {α : Type} {f : α → Bool} {l : List α} {k : Nat} {x : α} (h : ∀ (m : Nat) x, m < k → l[m]? = some x → f x = false) (hk : l[k]? = some x) (hf : f x = true) : idxI f l = k := by
  unfold idxI
  have hlt := (List.getElem?_eq_some_iff.1 hk).1
  have hx := (List.getElem?_eq_some_iff.1 hk).2
  rw [if_pos (List.any_eq_true.2 ⟨x, List.mem_of_getElem? hk, hf⟩)]
  congr 1
  rw [List.findIdx_eq hlt]
  refine ⟨by rw [hx]; exact hf, fun j hj => h j _ hj (List.getElem?_eq_getElem _)⟩
theorem index_ok (b : Bool) (l : List ByteArray) (s : ByteArray) (hl : l.length ≤ LIM) : Sp theEnv 129 [.slice (nk b) (l.map encS), .str s] (.int .i64 (idxI (fun t => decide (s = t)) l)) := by
  refine Sp.fn rfl rfl rfl (by simp only [go_sem, Nat.reduceEqDiff, Nat.reduceAdd, Nat.reduceLeDiff, Nat.reduceMul, Nat.reduceSub, Int.reduceLT, Int.reduceLE, Int.reduceEq, Int.reduceAdd, Int.reduceNeg, reduceIte, reduceCtorEq, Nat.reduceLT]) (by simp only [go_sem, Nat.reduceEqDiff, Nat.reduceAdd, Nat.reduceLeDiff, Nat.reduceMul, Nat.reduceSub, Int.reduceLT, Int.reduceLE, Int.reduceEq, Int.reduceAdd, Int.reduceNeg, reduceIte, reduceCtorEq, Nat.reduceLT, implies_true]) fun S => ?_; simp only [a129, c129, go_sem, Nat.reduceEqDiff, Nat.reduceAdd, Nat.reduceLeDiff, Nat.reduceMul, Nat.reduceSub, Int.reduceLT, Int.reduceLE, Int.reduceEq, Int.reduceAdd, Int.reduceNeg, reduceIte, reduceCtorEq, Nat.reduceLT]
  refine Run_range l.length [0, 1] [] (fun k vs S' => S' = _ ∧ ∀ m x, m < k → l[m]? = some x → decide (s = x) = false) hl (by simp only [go_sem, Nat.reduceEqDiff, Nat.reduceAdd, Nat.reduceLeDiff, Nat.reduceMul, Nat.reduceSub, Int.reduceLT, Int.reduceLE, Int.reduceEq, Int.reduceAdd, Int.reduceNeg, reduceIte, reduceCtorEq, Nat.reduceLT]) (by simp only [go_sem, Nat.reduceEqDiff, Nat.reduceAdd, Nat.reduceLeDiff, Nat.reduceMul, Nat.reduceSub, Int.reduceLT, Int.reduceLE, Int.reduceEq, Int.reduceAdd, Int.reduceNeg, reduceIte, reduceCtorEq, Nat.reduceLT]) rfl rfl rfl rfl (by simp only [go_sem, Nat.reduceEqDiff, Nat.reduceAdd, Nat.reduceLeDiff, Nat.reduceMul, Nat.reduceSub, Int.reduceLT, Int.reduceLE, Int.reduceEq, Int.reduceAdd, Int.reduceNeg, reduceIte, reduceCtorEq, Nat.reduceLT]) ⟨rfl, by simp⟩ ?_ ?_
  · rintro k F _ hk ⟨rfl, hno⟩ hi hkept
    simp only [go_sem, Nat.reduceEqDiff, Nat.reduceAdd, Nat.reduceLeDiff, Nat.reduceMul, Nat.reduceSub, Int.reduceLT, Int.reduceLE, Int.reduceEq, Int.reduceAdd, Int.reduceNeg, reduceIte, reduceCtorEq, Nat.reduceLT] at hkept
    obtain ⟨x, hx⟩ : ∃ x, l[k]? = some x := ⟨l[k], List.getElem?_eq_getElem hk⟩
    simp only [go_sem, Nat.reduceEqDiff, Nat.reduceAdd, Nat.reduceLeDiff, Nat.reduceMul, Nat.reduceSub, Int.reduceLT, Int.reduceLE, Int.reduceEq, Int.reduceAdd, Int.reduceNeg, reduceIte, reduceCtorEq, Nat.reduceLT, hkept, hi, iaO_map hx, Run_if]
    split
    · rename_i h
      simp only [go_sem, Nat.reduceEqDiff, Nat.reduceAdd, Nat.reduceLeDiff, Nat.reduceMul, Nat.reduceSub, Int.reduceLT, Int.reduceLE, Int.reduceEq, Int.reduceAdd, Int.reduceNeg, reduceIte, reduceCtorEq, Nat.reduceLT, idxI_at hno hx (by simp [h])]
    · rename_i h
      intro m y hm hy
      rcases Nat.lt_succ_iff_lt_or_eq.1 hm with h1 | h1
      · have := hno m y h1 hy; simpa using this
      · subst h1; rw [hx] at hy; cases hy; simpa using h
  · rintro F _ ⟨rfl, hno⟩ hkept
    simp only [go_sem, Nat.reduceEqDiff, Nat.reduceAdd, Nat.reduceLeDiff, Nat.reduceMul, Nat.reduceSub, Int.reduceLT, Int.reduceLE, Int.reduceEq, Int.reduceAdd, Int.reduceNeg, reduceIte, reduceCtorEq, Nat.reduceLT, idxI_none fun m x h => hno m x (List.getElem?_eq_some_iff.1 h).1 h]
theorem contains_sl (b : Bool) (l : List ByteArray) (s : ByteArray) (hl : l.length ≤ LIM) : Sp theEnv 97 [.slice (nk b) (l.map encS), .str s] (.bool (l.any fun t => decide (s = t))) := by
  refine Sp.fn rfl rfl rfl (by simp only [go_sem, Nat.reduceEqDiff, Nat.reduceAdd, Nat.reduceLeDiff, Nat.reduceMul, Nat.reduceSub, Int.reduceLT, Int.reduceLE, Int.reduceEq, Int.reduceAdd, Int.reduceNeg, reduceIte, reduceCtorEq, Nat.reduceLT]) (by simp only [go_sem, Nat.reduceEqDiff, Nat.reduceAdd, Nat.reduceLeDiff, Nat.reduceMul, Nat.reduceSub, Int.reduceLT, Int.reduceLE, Int.reduceEq, Int.reduceAdd, Int.reduceNeg, reduceIte, reduceCtorEq, Nat.reduceLT, implies_true]) fun S => ?_; simp only [a97, c97, go_sem, Nat.reduceEqDiff, Nat.reduceAdd, Nat.reduceLeDiff, Nat.reduceMul, Nat.reduceSub, Int.reduceLT, Int.reduceLE, Int.reduceEq, Int.reduceAdd, Int.reduceNeg, reduceIte, reduceCtorEq, Nat.reduceLT]
  simp only [go_sem, Nat.reduceEqDiff, Nat.reduceAdd, Nat.reduceLeDiff, Nat.reduceMul, Nat.reduceSub, Int.reduceLT, Int.reduceLE, Int.reduceEq, Int.reduceAdd, Int.reduceNeg, reduceIte, reduceCtorEq, Nat.reduceLT, (index_ok b l s hl).call, idxI_pos]
theorem is_ref (b : Bool) (l : List ByteArray) (s : ByteArray) (hl : l.length ≤ LIM) : Sp theEnv 70 [.slice (nk b) (l.map encS), .str s] (.bool (l.any fun t => decide (s = t))) := by
  refine Sp.fn rfl rfl rfl (by simp only [go_sem, Nat.reduceEqDiff, Nat.reduceAdd, Nat.reduceLeDiff, Nat.reduceMul, Nat.reduceSub, Int.reduceLT, Int.reduceLE, Int.reduceEq, Int.reduceAdd, Int.reduceNeg, reduceIte, reduceCtorEq, Nat.reduceLT]) (by simp only [go_sem, Nat.reduceEqDiff, Nat.reduceAdd, Nat.reduceLeDiff, Nat.reduceMul, Nat.reduceSub, Int.reduceLT, Int.reduceLE, Int.reduceEq, Int.reduceAdd, Int.reduceNeg, reduceIte, reduceCtorEq, Nat.reduceLT, implies_true]) fun S => ?_; simp only [a70, c70, go_sem, Nat.reduceEqDiff, Nat.reduceAdd, Nat.reduceLeDiff, Nat.reduceMul, Nat.reduceSub, Int.reduceLT, Int.reduceLE, Int.reduceEq, Int.reduceAdd, Int.reduceNeg, reduceIte, reduceCtorEq, Nat.reduceLT]
  refine Run_all l (fun t => !decide (s = t)) (fun S' => S' = _) [1, 7] hl (by simp only [go_sem, Nat.reduceEqDiff, Nat.reduceAdd, Nat.reduceLeDiff, Nat.reduceMul, Nat.reduceSub, Int.reduceLT, Int.reduceLE, Int.reduceEq, Int.reduceAdd, Int.reduceNeg, reduceIte, reduceCtorEq, Nat.reduceLT]) (by simp only [go_sem, Nat.reduceEqDiff, Nat.reduceAdd, Nat.reduceLeDiff, Nat.reduceMul, Nat.reduceSub, Int.reduceLT, Int.reduceLE, Int.reduceEq, Int.reduceAdd, Int.reduceNeg, reduceIte, reduceCtorEq, Nat.reduceLT]) rfl rfl rfl (by simp only [go_sem, Nat.reduceEqDiff, Nat.reduceAdd, Nat.reduceLeDiff, Nat.reduceMul, Nat.reduceSub, Int.reduceLT, Int.reduceLE, Int.reduceEq, Int.reduceAdd, Int.reduceNeg, reduceIte, reduceCtorEq, Nat.reduceLT]) rfl ?_ ?_
  · rintro k F _ x hx hm rfl hi hkept hall
    simp only [go_sem, Nat.reduceEqDiff, Nat.reduceAdd, Nat.reduceLeDiff, Nat.reduceMul, Nat.reduceSub, Int.reduceLT, Int.reduceLE, Int.reduceEq, Int.reduceAdd, Int.reduceNeg, reduceIte, reduceCtorEq, Nat.reduceLT] at hkept
    simp only [go_sem, Nat.reduceEqDiff, Nat.reduceAdd, Nat.reduceLeDiff, Nat.reduceMul, Nat.reduceSub, Int.reduceLT, Int.reduceLE, Int.reduceEq, Int.reduceAdd, Int.reduceNeg, reduceIte, reduceCtorEq, Nat.reduceLT, hkept, hi, iaO_map hx, Run_if]
    rw [← List.not_any_eq_all_not] at hall
    grind
  · rintro F _ hall rfl hkept
    rw [← List.not_any_eq_all_not] at hall
    simp only [go_sem, Nat.reduceEqDiff, Nat.reduceAdd, Nat.reduceLeDiff, Nat.reduceMul, Nat.reduceSub, Int.reduceLT, Int.reduceLE, Int.reduceEq, Int.reduceAdd, Int.reduceNeg, reduceIte, reduceCtorEq, Nat.reduceLT]
    grind
def isNew (names : List ByteArray) (s : ByteArray) : Bool := !(names.any fun t => decide (s = t))
theorem named_ok (b : Bool) (names : List ByteArray) (s : ByteArray) (hl : names.length ≤ LIM) : Sp theEnv 65 [.str s, .slice (nk b) (names.map encS)] (.bool (vName s && isNew names s)) := by
  refine Sp.fn rfl rfl rfl (by simp only [go_sem, Nat.reduceEqDiff, Nat.reduceAdd, Nat.reduceLeDiff, Nat.reduceMul, Nat.reduceSub, Int.reduceLT, Int.reduceLE, Int.reduceEq, Int.reduceAdd, Int.reduceNeg, reduceIte, reduceCtorEq, Nat.reduceLT]) (by simp only [go_sem, Nat.reduceEqDiff, Nat.reduceAdd, Nat.reduceLeDiff, Nat.reduceMul, Nat.reduceSub, Int.reduceLT, Int.reduceLE, Int.reduceEq, Int.reduceAdd, Int.reduceNeg, reduceIte, reduceCtorEq, Nat.reduceLT, implies_true]) fun S => ?_; simp only [a65, c65, go_sem, Nat.reduceEqDiff, Nat.reduceAdd, Nat.reduceLeDiff, Nat.reduceMul, Nat.reduceSub, Int.reduceLT, Int.reduceLE, Int.reduceEq, Int.reduceAdd, Int.reduceNeg, reduceIte, reduceCtorEq, Nat.reduceLT]
  simp only [go_sem, Nat.reduceEqDiff, Nat.reduceAdd, Nat.reduceLeDiff, Nat.reduceMul, Nat.reduceSub, Int.reduceLT, Int.reduceLE, Int.reduceEq, Int.reduceAdd, Int.reduceNeg, reduceIte, reduceCtorEq, Nat.reduceLT, (name_set s).call, (contains_sl b names s hl).callG, isNew]
/-- What a clone is. -/
def cloneV (b : Bool) (xs : List (List V)) : V := if b then .slice .nil [] else .slice (.own 9) xs
@[go_sem] theorem tame_cloneV {b : Bool} {xs : List (List V)} : tame (cloneV b xs) = true := by cases b <;> rfl
@[go_sem] theorem tame_scloneV {b : Bool} {xs : List (List V)} : tame (strip (cloneV b xs)) = true := by cases b <;> rfl
theorem app_clone {b : Bool} {l : List ByteArray} {s : ByteArray} {k : SK} (hl : l.length ≤ 1000000) (hb : b = true → l = []) : appO 9 1 16 (cloneV b (l.map encS)) (.slice k [[.str s]]) = some (.slice (.own 9) ((l ++ [s]).map encS)) := by
  cases b with
  | true => rw [hb rfl]; exact appO_nil rfl (by simp) (by simp)
  | false =>
    rw [List.map_append]
    exact appO_own rfl (by simp; omega) (by simp; omega)
theorem clone_ok (b : Bool) (l : List ByteArray) (hl : l.length ≤ 1000000) (hb : b = true → l = []) : Sp theEnv 32 [.slice (nk b) (l.map encS)] (cloneV b (l.map encS)) := by
  refine Sp.fn rfl rfl rfl (by simp only [go_sem, Nat.reduceEqDiff, Nat.reduceAdd, Nat.reduceLeDiff, Nat.reduceMul, Nat.reduceSub, Int.reduceLT, Int.reduceLE, Int.reduceEq, Int.reduceAdd, Int.reduceNeg, reduceIte, reduceCtorEq, Nat.reduceLT]) (by cases b <;> simp only [cloneV, go_sem, Nat.reduceEqDiff, Nat.reduceAdd, Nat.reduceLeDiff, Nat.reduceMul, Nat.reduceSub, Int.reduceLT, Int.reduceLE, Int.reduceEq, Int.reduceAdd, Int.reduceNeg, reduceIte, reduceCtorEq, Nat.reduceLT, implies_true]) fun S => ?_
  simp only [a32, c32, go_sem, Nat.reduceEqDiff, Nat.reduceAdd, Nat.reduceLeDiff, Nat.reduceMul, Nat.reduceSub, Int.reduceLT, Int.reduceLE, Int.reduceEq, Int.reduceAdd, Int.reduceNeg, reduceIte, reduceCtorEq, Nat.reduceLT]
  cases b with
  | true => simp only [go_sem, Nat.reduceEqDiff, Nat.reduceAdd, Nat.reduceLeDiff, Nat.reduceMul, Nat.reduceSub, Int.reduceLT, Int.reduceLE, Int.reduceEq, Int.reduceAdd, Int.reduceNeg, reduceIte, reduceCtorEq, Nat.reduceLT, cloneV]
  | false => simp only [go_sem, Nat.reduceEqDiff, Nat.reduceAdd, Nat.reduceLeDiff, Nat.reduceMul, Nat.reduceSub, Int.reduceLT, Int.reduceLE, Int.reduceEq, Int.reduceAdd, Int.reduceNeg, reduceIte, reduceCtorEq, Nat.reduceLT, appO_own (e := 9) (b := 16) (k := .shut) (xs := []) (lens_S l) (by simp; omega) (by simp; omega), cloneV]
theorem arr_named {a : Arr} {s : Stm} {S : St} {l i : Nat} (hb : getBox S l i = some (encStm s)) : CallIs theEnv (.fn 186) [.agg (encArr a), .ptr l i 0] S (.ret (.bool (decide (a.name = s.name)))) S := by
  refine CallIs.fn rfl rfl rfl ?_
  have g1 := fun T => getBox_up (T := T) hb
  simp only [a186, c186, go_sem, Nat.reduceEqDiff, Nat.reduceAdd, Nat.reduceLeDiff, Nat.reduceMul, Nat.reduceSub, Int.reduceLT, Int.reduceLE, Int.reduceEq, Int.reduceAdd, Int.reduceNeg, reduceIte, reduceCtorEq, Nat.reduceLT, g1]
theorem arr_index {b : Bool} {ars : List Arr} {s : Stm} {S : St} {l i : Nat} (hl : ars.length ≤ LIM) (hb : getBox S l i = some (encStm s)) : CallIs theEnv (.fn 191) [.slice (nk b) (ars.map encArr), .func (.func 186) [.ptr l i 0]] S (.ret (.int .i64 (idxI (fun a => decide (a.name = s.name)) ars))) S := by
  refine CallIs.fn rfl rfl rfl ?_
  have g1 := fun T => getBox_up (T := T) hb
  simp only [a191, c191, go_sem, Nat.reduceEqDiff, Nat.reduceAdd, Nat.reduceLeDiff, Nat.reduceMul, Nat.reduceSub, Int.reduceLT, Int.reduceLE, Int.reduceEq, Int.reduceAdd, Int.reduceNeg, reduceIte, reduceCtorEq, Nat.reduceLT]
  refine Run_range ars.length [0, 1] [] (fun k vs S' => S' = _ ∧ ∀ m x, m < k → ars[m]? = some x → decide (x.name = s.name) = false) hl (by simp only [go_sem, Nat.reduceEqDiff, Nat.reduceAdd, Nat.reduceLeDiff, Nat.reduceMul, Nat.reduceSub, Int.reduceLT, Int.reduceLE, Int.reduceEq, Int.reduceAdd, Int.reduceNeg, reduceIte, reduceCtorEq, Nat.reduceLT]) (by simp only [go_sem, Nat.reduceEqDiff, Nat.reduceAdd, Nat.reduceLeDiff, Nat.reduceMul, Nat.reduceSub, Int.reduceLT, Int.reduceLE, Int.reduceEq, Int.reduceAdd, Int.reduceNeg, reduceIte, reduceCtorEq, Nat.reduceLT]) rfl rfl rfl rfl (by simp only [go_sem, Nat.reduceEqDiff, Nat.reduceAdd, Nat.reduceLeDiff, Nat.reduceMul, Nat.reduceSub, Int.reduceLT, Int.reduceLE, Int.reduceEq, Int.reduceAdd, Int.reduceNeg, reduceIte, reduceCtorEq, Nat.reduceLT]) ⟨rfl, by simp⟩ ?_ ?_
  · rintro k F _ hk ⟨rfl, hno⟩ hi hkept
    simp only [go_sem, Nat.reduceEqDiff, Nat.reduceAdd, Nat.reduceLeDiff, Nat.reduceMul, Nat.reduceSub, Int.reduceLT, Int.reduceLE, Int.reduceEq, Int.reduceAdd, Int.reduceNeg, reduceIte, reduceCtorEq, Nat.reduceLT] at hkept
    obtain ⟨x, hx⟩ : ∃ x, ars[k]? = some x := ⟨ars[k], List.getElem?_eq_getElem hk⟩
    have hc := fun T => arr_named (a := x) (g1 T)
    simp only [go_sem, Nat.reduceEqDiff, Nat.reduceAdd, Nat.reduceLeDiff, Nat.reduceMul, Nat.reduceSub, Int.reduceLT, Int.reduceLE, Int.reduceEq, Int.reduceAdd, Int.reduceNeg, reduceIte, reduceCtorEq, Nat.reduceLT, hkept, hi, iaO_map hx, CallvP (xs := [.agg (encArr x)]) (cs := [.ptr l i 0]) (hc _) rfl rfl, Run_if]
    split
    · rename_i h
      simp only [go_sem, Nat.reduceEqDiff, Nat.reduceAdd, Nat.reduceLeDiff, Nat.reduceMul, Nat.reduceSub, Int.reduceLT, Int.reduceLE, Int.reduceEq, Int.reduceAdd, Int.reduceNeg, reduceIte, reduceCtorEq, Nat.reduceLT, idxI_at hno hx (by simp [h])]
    · rename_i h
      intro m y hm hy
      rcases Nat.lt_succ_iff_lt_or_eq.1 hm with h1 | h1
      · have := hno m y h1 hy; simpa using this
      · subst h1; rw [hx] at hy; cases hy; simpa using h
  · rintro F _ ⟨rfl, hno⟩ hkept
    simp only [go_sem, Nat.reduceEqDiff, Nat.reduceAdd, Nat.reduceLeDiff, Nat.reduceMul, Nat.reduceSub, Int.reduceLT, Int.reduceLE, Int.reduceEq, Int.reduceAdd, Int.reduceNeg, reduceIte, reduceCtorEq, Nat.reduceLT, idxI_none fun m x h => hno m x (List.getElem?_eq_some_iff.1 h).1 h]
theorem arr_contains {b : Bool} {ars : List Arr} {s : Stm} {S : St} {l i : Nat} (hl : ars.length ≤ LIM) (hb : getBox S l i = some (encStm s)) : CallIs theEnv (.fn 185) [.slice (nk b) (ars.map encArr), .func (.func 186) [.ptr l i 0]] S (.ret (.bool (ars.any fun a => decide (a.name = s.name)))) S := by
  refine CallIs.fn rfl rfl rfl ?_
  have hc := fun T => arr_index (b := b) hl (getBox_up (T := T) hb)
  simp only [a185, c185, go_sem, Nat.reduceEqDiff, Nat.reduceAdd, Nat.reduceLeDiff, Nat.reduceMul, Nat.reduceSub, Int.reduceLT, Int.reduceLE, Int.reduceEq, Int.reduceAdd, Int.reduceNeg, reduceIte, reduceCtorEq, Nat.reduceLT, CallP (hc _), idxI_pos]
end Wp
end AM
end Go.Proofs.Ytimfbnojmdnlnaa
