/- The walk over all statements; The walk over a program; lang.Assigns. -/
import Derived.Test.YtimfbnojmdnlnaaGreatKM25
import Derived.Test.YtimfbnojmdnlnaaGreatKM26
set_option linter.unusedVariables false
set_option linter.unusedSimpArgs false
set_option maxRecDepth 100000
section
namespace Go.Proofs.YtimfbnojmdnlnaaGreat
namespace AM
namespace Wp
structure Step where
 path : List Int
 nb : Bool
 names : List ByteArray
 s : Stm
def encStep (x : Step) : List V := [.slice .shut (x.path.map encI), .slice (nk x.nb) (x.names.map encS)] ++ encStm x.s
def inNb (nb : Bool) (s : Stm) : Bool := if s.kind = 1 then false else nb
def inNames (names : List ByteArray) (s : Stm) : List ByteArray := if s.kind = 1 then names ++ [s.name] else names
mutual
def stepsS (path : List Int) (nb : Bool) (names : List ByteArray) (i : Nat) : Stm → List Step
 | s@⟨_, _, _, _, _, _, _, _, _, _, body, _, els⟩ => ⟨path ++ [(i : Int)], nb, names, s⟩ :: (stepsL (path ++ [(i : Int)] ++ [0]) (inNb nb s) (inNames names s) 0 body ++ stepsL (path ++ [(i : Int)] ++ [1]) (inNb nb s) (inNames names s) 0 els)
def stepsL (path : List Int) (nb : Bool) (names : List ByteArray) (i : Nat) : List Stm → List Step
 | [] => []
 | s :: l => stepsS path nb names i s ++ stepsL path nb names (i + 1) l
end
theorem stepsS_eq (path : List Int) (nb : Bool) (names : List ByteArray) (i : Nat) (s : Stm) : stepsS path nb names i s = ⟨path ++ [(i : Int)], nb, names, s⟩ :: (stepsL (path ++ [(i : Int)] ++ [0]) (inNb nb s) (inNames names s) 0 s.body ++ stepsL (path ++ [(i : Int)] ++ [1]) (inNb nb s) (inNames names s) 0 s.els) := by
 cases s; rw [stepsS]
theorem stepsL_snoc {path : List Int} {nb : Bool} {names : List ByteArray} {s : Stm} : ∀ {l : List Stm} {i : Nat}, stepsL path nb names i (l ++ [s]) = stepsL path nb names i l ++ stepsS path nb names (i + l.length) s
 | [], i => by simp [stepsL]
 | x :: l, i => by
  simp only [List.cons_append, stepsL, stepsL_snoc, List.append_assoc, List.length_cons]
  rw [show i + 1 + l.length = i + (l.length + 1) from by omega]
theorem stepsL_app {path : List Int} {nb : Bool} {names : List ByteArray} {ys : List Stm} : ∀ {l : List Stm} {i : Nat}, stepsL path nb names i (l ++ ys) = stepsL path nb names i l ++ stepsL path nb names (i + l.length) ys
 | [], i => by simp [stepsL]
 | x :: l, i => by
  simp only [List.cons_append, stepsL, stepsL_app, List.append_assoc, List.length_cons]
  rw [show i + 1 + l.length = i + (l.length + 1) from by omega]
section
variable {σ : Type}
def foldG (g : σ → Step → σ × Bool) : σ → List Step → σ × Bool
 | t, [] => (t, true)
 | t, x :: xs => if (g t x).2 = true then foldG g (g t x).1 xs else ((g t x).1, false)
theorem foldG_app {g : σ → Step → σ × Bool} : ∀ {xs ys : List Step} {t : σ}, foldG g t (xs ++ ys) = if (foldG g t xs).2 = true then foldG g (foldG g t xs).1 ys else ((foldG g t xs).1, false)
 | [], ys, t => by simp [foldG]
 | x :: xs, ys, t => by
  simp only [List.cons_append, foldG]
  split
  ·exact foldG_app
  ·rfl
def okStep (x : Step) : Prop := OkStm x.s ∧ wtL (encStm x.s) ≤ 1000000000 ∧ x.path.length ≤ 1000000000 ∧ x.names.length ≤ 1000000000
structure Bud (g : σ → Step → σ × Bool) (J : σ → Nat → Prop) : Prop where
 mono : ∀ t n m, J t n → m ≤ n → J t m
 step : ∀ t x n, okStep x → (g t x).2 = true → J t (n + 1) → J (g t x).1 n
theorem Bud.fold {g : σ → Step → σ × Bool} {J : σ → Nat → Prop} (h : Bud g J) : ∀ {xs : List Step} {t : σ} {n : Nat}, (∀ x ∈ xs, okStep x) → (foldG g t xs).2 = true → J t (xs.length + n) → J (foldG g t xs).1 n
 | [], t, n, _, _, hj => by simpa [foldG] using hj
 | x :: xs, t, n, hx, hf, hj => by
  simp only [foldG] at hf ⊢
  split
  ·rename_i hg
   rw [if_pos hg] at hf
   exact h.fold (fun y hy => hx y (List.mem_cons_of_mem _ hy)) hf (h.step t x _ (hx x List.mem_cons_self) hg (h.mono _ _ _ hj (by simp; omega)))
  ·rename_i hg
   rw [if_neg hg] at hf
   cases hf
def YSp (l : Nat) (fr : σ → Lev) (g : σ → Step → σ × Bool) (J : σ → Nat → Prop) : Prop := ∀ t x S, okStep x → J t 1 → getLev S l = some (fr t) → CallIs theEnv (.yield l) [.agg (encStep x)] S (.ret (.bool (g t x).2)) (putLev S l (fr (g t x).1))
@[go_sem] theorem len_putLev' {S : St} {l : Nat} {x : Lev} : (putLev S l x).length = S.length := len_putLev
@[go_sem] theorem getBox_topP {B : List (List V)} {lp : Option Lp} {R : St} {l i : Nat} {x : Lev} : getBox (⟨B, lp⟩ :: putLev R l x) R.length i = bget B i := by
 have := getBox_top (B := B) (lp := lp) (R := putLev R l x) (i := i)
 rw [len_putLev] at this; exact this
@[go_sem] theorem setBox_topP {B : List (List V)} {lp : Option Lp} {R : St} {l i : Nat} {x : Lev} {cs : List V} : setBox (⟨B, lp⟩ :: putLev R l x) R.length i cs = ⟨bset B i cs, lp⟩ :: putLev R l x := by
 have := setBox_top (B := B) (lp := lp) (R := putLev R l x) (i := i) (cs := cs)
 rw [len_putLev] at this; exact this
theorem app_cloneI {b : Bool} {l : List Int} {i : Int} {k : SK} (hl : l.length ≤ 1000000000) (hb : b = true → l = []) : appO 3 1 8 (cloneI b (l.map encI)) (.slice k [[.int .i64 i]]) = some (.slice (.own 3) ((l ++ [i]).map encI)) := by
 cases b with
 | true => rw [hb rfl]; exact appO_nil rfl (by simp) (by simp)
 | false =>
  rw [List.map_append]
  exact appO_own rfl (by simp; omega) (by simp; omega)
def fAll (m : Nat) : V := .func (.func 83) [.ptr m 0 0, .ptr m 1 0]
def AllSp (l m : Nat) (fr : σ → Lev) (g : σ → Step → σ × Bool) (J : σ → Nat → Prop) (xs : List Stm) : Prop := ∀ (b pb nb : Bool) (path : List Int) (names : List ByteArray) (t : σ) (S : St), (pb = true → path = []) → (nb = true → names = []) → path.length + wtR (xs.map encStm) ≤ 900000000 → names.length + wtR (xs.map encStm) ≤ 900000000 →
 getLev S l = some (fr t) → getBox S m 0 = some [.func (.yield l) []] → getBox S m 1 = some [fAll m] → J t (stepsL path nb names 0 xs).length →
 CallIs theEnv (.fn 83) [.slice (nk b) (xs.map encStm), .slice (nk pb) (path.map encI), .slice (nk nb) (names.map encS), .ptr m 0 0, .ptr m 1 0] S (.ret (.bool (foldG g t (stepsL path nb names 0 xs)).2)) (putLev S l (fr (foldG g t (stepsL path nb names 0 xs)).1))
mutual
theorem stepsS_ok {M N : Nat} : ∀ (s : Stm) {path : List Int} {nb : Bool} {names : List ByteArray} {i : Nat}, OkStm s → wtL (encStm s) ≤ M → path.length + wtL (encStm s) ≤ N → names.length + wtL (encStm s) ≤ N → ∀ x ∈ stepsS path nb names i s, OkStm x.s ∧ wtL (encStm x.s) ≤ M ∧ x.path.length ≤ N ∧ x.names.length ≤ N
 | ⟨kind, name, low, high, step, mark, test, target, value, bn, body, en, els⟩, path, nb, names, i, hs, hw, hp, hq => by
  intro x hx
  have hw' := hw
  rw [wl_Stm] at hw' hp hq
  dsimp only at hw' hp hq
  have hnn : ∀ s : Stm, (inNames names s).length ≤ names.length + 1 := fun s => by unfold inNames; split <;> simp
  have hn1 := hnn ⟨kind, name, low, high, step, mark, test, target, value, bn, body, en, els⟩
  simp only [stepsS, List.mem_cons, List.mem_append] at hx
  rcases hx with rfl | hx | hx
  ·exact ⟨hs, hw, by simp; omega, by simp; omega⟩
  ·exact stepsL_ok body hs.body' (by omega) (by simp; omega) (by omega) x hx
  ·exact stepsL_ok els hs.els' (by omega) (by simp; omega) (by omega) x hx
theorem stepsL_ok {M N : Nat} : ∀ (l : List Stm) {path : List Int} {nb : Bool} {names : List ByteArray} {i : Nat}, (∀ s ∈ l, OkStm s) → wtR (l.map encStm) ≤ M → path.length + wtR (l.map encStm) ≤ N → names.length + wtR (l.map encStm) ≤ N → ∀ x ∈ stepsL path nb names i l, OkStm x.s ∧ wtL (encStm x.s) ≤ M ∧ x.path.length ≤ N ∧ x.names.length ≤ N
 | [], _, _, _, _, _, _, _, _ => by simp [stepsL]
 | s :: l, path, nb, names, i, hs, hw, hp, hq => by
  intro x hx
  simp only [List.map_cons, wtR] at hw hp hq
  simp only [stepsL, List.mem_append] at hx
  rcases hx with hx | hx
  ·exact stepsS_ok s (hs s List.mem_cons_self) (by omega) (by omega) (by omega) x hx
  ·exact stepsL_ok l (fun y hy => hs y (List.mem_cons_of_mem _ hy)) (by omega) (by omega) (by omega) x hx
end
theorem steps_ok {l : List Stm} {path : List Int} {nb : Bool} {names : List ByteArray} {i : Nat} (hs : ∀ s ∈ l, OkStm s) (hw : path.length + wtR (l.map encStm) ≤ 1000000000) (hn : names.length + wtR (l.map encStm) ≤ 1000000000) : ∀ x ∈ stepsL path nb names i l, okStep x := stepsL_ok l hs (by omega) hw hn
theorem all_list {l m : Nat} {fr : σ → Lev} {g : σ → Step → σ × Bool} {J : σ → Nat → Prop} (hy : YSp l fr g J) (hJ : Bud g J) (hml : m ≠ l) (xs : List Stm) (hx : ∀ s ∈ xs, OkStm s) (hwx : wtR (xs.map encStm) ≤ 1000000000) (hb : ∀ s ∈ xs, AllSp l m fr g J s.body) (he : ∀ s ∈ xs, AllSp l m fr g J s.els) : AllSp l m fr g J xs := by
 intro b pb nb path names t S hpb hnb hp hn hlev hb0 hb1 hj
 have hlen := wtR_len (enc := encStm) (fun x => by rw [wl_Stm]; omega) xs
 have hmS := getBox_lt hb0
 have hb0' : ∀ T x, getBox (T :: putLev S l x) m 0 = some [.func (.yield l) []] := fun T x => getBox_up (by rw [getBox_lev, getLev_other hml, ← getBox_lev]; exact hb0)
 have hb1' : ∀ T x, getBox (T :: putLev S l x) m 1 = some [fAll m] := fun T x => getBox_up (by rw [getBox_lev, getLev_other hml, ← getBox_lev]; exact hb1)
 have hY : ∀ B t x, okStep x → J t 1 → CallIs theEnv (.yield l) [.agg (encStep x)] (⟨B, none⟩ :: putLev S l (fr t)) (.ret (.bool (g t x).2)) (⟨B, none⟩ :: putLev S l (fr (g t x).1)) := by
  intro B t x hx hj
  have h1 := getLev_put (y := fr t) hlev
  have := hy t x (⟨B, none⟩ :: putLev S l (fr t)) hx hj (getLev_up h1)
  rw [putLev_up h1, putLev_put] at this
  exact this
 refine CallIs.fn rfl rfl rfl ?_
 rw [← putLev_self hlev]
 simp only [a83, c83, go_sem, Nat.reduceEqDiff, Nat.reduceAdd, Nat.reduceLeDiff, Nat.reduceMul, Nat.reduceSub, Int.reduceLT, Int.reduceLE, Int.reduceEq, Int.reduceAdd, Int.reduceNeg, reduceIte, reduceCtorEq, Nat.reduceLT]
 refine Run_range xs.length [1, 2, 3, 4, 13] [] (fun k _ S' => ∃ B, (foldG g t (stepsL path nb names 0 (xs.take k))).2 = true ∧ S' = ⟨B, none⟩ :: putLev S l (fr (foldG g t (stepsL path nb names 0 (xs.take k))).1)) (by omega) (by simp only [go_sem, Nat.reduceEqDiff, Nat.reduceAdd, Nat.reduceLeDiff, Nat.reduceMul, Nat.reduceSub, Int.reduceLT, Int.reduceLE, Int.reduceEq, Int.reduceAdd, Int.reduceNeg, reduceIte, reduceCtorEq, Nat.reduceLT]) (by simp only [go_sem, Nat.reduceEqDiff, Nat.reduceAdd, Nat.reduceLeDiff, Nat.reduceMul, Nat.reduceSub, Int.reduceLT, Int.reduceLE, Int.reduceEq, Int.reduceAdd, Int.reduceNeg, reduceIte, reduceCtorEq, Nat.reduceLT]) rfl rfl rfl rfl (by simp only [go_sem, Nat.reduceEqDiff, Nat.reduceAdd, Nat.reduceLeDiff, Nat.reduceMul, Nat.reduceSub, Int.reduceLT, Int.reduceLE, Int.reduceEq, Int.reduceAdd, Int.reduceNeg, reduceIte, reduceCtorEq, Nat.reduceLT]) ⟨_, rfl, rfl⟩ ?_ ?_
 ·rintro k F _ hk ⟨B, hfold, rfl⟩ hi hkept
  simp only [go_sem, Nat.reduceEqDiff, Nat.reduceAdd, Nat.reduceLeDiff, Nat.reduceMul, Nat.reduceSub, Int.reduceLT, Int.reduceLE, Int.reduceEq, Int.reduceAdd, Int.reduceNeg, reduceIte, reduceCtorEq, Nat.reduceLT] at hkept
  obtain ⟨y, hyk⟩ : ∃ y, xs[k]? = some y := ⟨xs[k], List.getElem?_eq_getElem hk⟩
  have hm := List.mem_of_getElem? hyk
  have hsy := wt_part (enc := encStm) hm
  rw [wl_Stm] at hsy
  have hstep : foldG g t (stepsL path nb names 0 (xs.take (k + 1))) = foldG g (foldG g t (stepsL path nb names 0 (xs.take k))).1 (stepsS path nb names k y) := by
   rw [take_snoc' hyk, stepsL_snoc, foldG_app, if_pos hfold, List.length_take, Nat.min_eq_left (by omega), Nat.zero_add]
  simp only [hstep]
  have hend : (foldG g (foldG g t (stepsL path nb names 0 (xs.take k))).1 (stepsS path nb names k y)).2 = false → foldG g t (stepsL path nb names 0 xs) = ((foldG g (foldG g t (stepsL path nb names 0 (xs.take k))).1 (stepsS path nb names k y)).1, false) := by
   intro h
   rw [← hstep] at h ⊢
   have e : stepsL path nb names 0 xs = stepsL path nb names 0 (xs.take (k + 1)) ++ stepsL path nb names (0 + (xs.take (k + 1)).length) (xs.drop (k + 1)) := by
    rw [← stepsL_app, List.take_append_drop]
   rw [e, foldG_app, if_neg (by rw [h]; simp)]
  have hyo : okStep ⟨path ++ [(k : Int)], nb, names, y⟩ := ⟨hx y hm, show wtL (encStm y) ≤ 1000000000 by rw [wl_Stm]; omega, by simp; omega, by simp only; omega⟩
  have hjk : J (foldG g t (stepsL path nb names 0 (xs.take k))).1 (stepsS path nb names k y).length := by
   refine hJ.fold (steps_ok (fun s hs => hx s (List.mem_of_mem_take hs)) (by have := wtR_take (enc := encStm) (l := xs) (k := k); omega) (by have := wtR_take (enc := encStm) (l := xs) (k := k); omega)) hfold (hJ.mono _ _ _ hj ?_)
   have e : stepsL path nb names 0 xs = stepsL path nb names 0 (xs.take (k + 1)) ++ stepsL path nb names (0 + (xs.take (k + 1)).length) (xs.drop (k + 1)) := by
    rw [← stepsL_app, List.take_append_drop]
   rw [e, take_snoc' hyk, stepsL_snoc, List.length_append, List.length_append, List.length_take, Nat.min_eq_left (by omega), Nat.zero_add]
   omega
  generalize (foldG g t (stepsL path nb names 0 (xs.take k))).1 = t1 at hend hjk ⊢
  have hc1 := clone_int pb path (by omega)
  have hc2 := clone_ok nb names (by omega) hnb
  simp only [go_sem, Nat.reduceEqDiff, Nat.reduceAdd, Nat.reduceLeDiff, Nat.reduceMul, Nat.reduceSub, Int.reduceLT, Int.reduceLE, Int.reduceEq, Int.reduceAdd, Int.reduceNeg, reduceIte, reduceCtorEq, Nat.reduceLT, hkept, hi, iaO_map hyk, hc1.call, app_cloneI (by omega) hpb, hb0', hc2.call, strip_clone hnb]
  have hk1 : CallIs theEnv (.yield l) [.agg (V.slice .shut ((path ++ [(k : Int)]).map encI) :: V.slice (nk nb) (names.map encS) :: encStm y)] (⟨B ++ [encStm y], none⟩ :: putLev S l (fr t1)) (.ret (.bool (g t1 ⟨path ++ [(k : Int)], nb, names, y⟩).2)) (⟨B ++ [encStm y], none⟩ :: putLev S l (fr (g t1 ⟨path ++ [(k : Int)], nb, names, y⟩).1)) := hY _ t1 ⟨path ++ [(k : Int)], nb, names, y⟩ hyo (hJ.mono _ _ _ hjk (by rw [stepsS_eq]; simp))
  rw [CallvY hk1 (by simp only [go_sem, Nat.reduceEqDiff, Nat.reduceAdd, Nat.reduceLeDiff, Nat.reduceMul, Nat.reduceSub, Int.reduceLT, Int.reduceLE, Int.reduceEq, Int.reduceAdd, Int.reduceNeg, reduceIte, reduceCtorEq, Nat.reduceLT]) (by simp only [go_sem, Nat.reduceEqDiff, Nat.reduceAdd, Nat.reduceLeDiff, Nat.reduceMul, Nat.reduceSub, Int.reduceLT, Int.reduceLE, Int.reduceEq, Int.reduceAdd, Int.reduceNeg, reduceIte, reduceCtorEq, Nat.reduceLT])]
  have hj2 : (g t1 ⟨path ++ [(k : Int)], nb, names, y⟩).2 = true → J (g t1 ⟨path ++ [(k : Int)], nb, names, y⟩).1 ((stepsL (path ++ [(k : Int)] ++ [0]) (inNb nb y) (inNames names y) 0 y.body).length + (stepsL (path ++ [(k : Int)] ++ [1]) (inNb nb y) (inNames names y) 0 y.els).length) := by
   intro hgo
   refine hJ.step _ _ _ hyo hgo ?_
   rw [stepsS_eq] at hjk
   simpa only [List.length_cons, List.length_append] using hjk
  simp only [stepsS_eq, foldG] at hend ⊢
  generalize g t1 ⟨path ++ [(k : Int)], nb, names, y⟩ = r1 at hend hj2 ⊢
  obtain ⟨t2, b1⟩ := r1
  simp only [go_sem, Nat.reduceEqDiff, Nat.reduceAdd, Nat.reduceLeDiff, Nat.reduceMul, Nat.reduceSub, Int.reduceLT, Int.reduceLE, Int.reduceEq, Int.reduceAdd, Int.reduceNeg, reduceIte, reduceCtorEq, Nat.reduceLT, Run_if]
  cases b1 with
  | false =>
   have := hend (by simp only [go_sem, Nat.reduceEqDiff, Nat.reduceAdd, Nat.reduceLeDiff, Nat.reduceMul, Nat.reduceSub, Int.reduceLT, Int.reduceLE, Int.reduceEq, Int.reduceAdd, Int.reduceNeg, reduceIte, reduceCtorEq, Nat.reduceLT])
   simp only [go_sem, Nat.reduceEqDiff, Nat.reduceAdd, Nat.reduceLeDiff, Nat.reduceMul, Nat.reduceSub, Int.reduceLT, Int.reduceLE, Int.reduceEq, Int.reduceAdd, Int.reduceNeg, reduceIte, reduceCtorEq, Nat.reduceLT, putLev_put, this]
  | true =>
   have hj2 := hj2 rfl
   simp only [go_sem, Nat.reduceEqDiff, Nat.reduceAdd, Nat.reduceLeDiff, Nat.reduceMul, Nat.reduceSub, Int.reduceLT, Int.reduceLE, Int.reduceEq, Int.reduceAdd, Int.reduceNeg, reduceIte, reduceCtorEq, Nat.reduceLT, hkept]
   have hr : ∀ (c : Bool) (ys : List Stm) (b' : Bool) (t3 : σ) (B : List (List V)), ys = (if c then y.els else y.body) → J t3 (stepsL (path ++ [(k : Int)] ++ [if c then 1 else 0]) (inNb nb y) (inNames names y) 0 ys).length → CallIs theEnv (.fn 83) [.slice (nk b') (ys.map encStm), .slice .shut ((path ++ [(k : Int)] ++ [if c then 1 else 0]).map encI), .slice (nk (inNb nb y)) ((inNames names y).map encS), .ptr m 0 0, .ptr m 1 0] (⟨B, none⟩ :: putLev S l (fr t3))
     (.ret (.bool (foldG g t3 (stepsL (path ++ [(k : Int)] ++ [if c then 1 else 0]) (inNb nb y) (inNames names y) 0 ys)).2)) (⟨B, none⟩ :: putLev S l (fr (foldG g t3 (stepsL (path ++ [(k : Int)] ++ [if c then 1 else 0]) (inNb nb y) (inNames names y) 0 ys)).1)) := by
    rintro c ys b' t3 B rfl hj3
    have h1 := getLev_put (y := fr t3) hlev
    have hA : AllSp l m fr g J (if c = true then y.els else y.body) := by
     cases c
     ·exact hb y hm
     ·exact he y hm
    have hnn : (inNames names y).length ≤ names.length + 1 := by unfold inNames; split <;> simp
    have hw : wtR ((if c = true then y.els else y.body).map encStm) + 4 ≤ wtR (xs.map encStm) := by cases c <;> simp only [if_true, if_false, Bool.false_eq_true] <;> omega
    have := hA b' false (inNb nb y) (path ++ [(k : Int)] ++ [if c then 1 else 0]) (inNames names y) t3 (⟨B, none⟩ :: putLev S l (fr t3)) (by simp) (by unfold inNb inNames; split <;> simp_all) (by simp only [List.length_append, List.length_singleton]; omega) (by omega) (getLev_up h1) (hb0' _ _) (hb1' _ _) hj3
    rw [putLev_up h1, putLev_put] at this
    exact this
   have hr0 := fun b' t3 B => hr false y.body b' t3 B rfl
   have hr1 := fun b' t3 B => hr true y.els b' t3 B rfl
   have hj3 : (foldG g t2 (stepsL (path ++ [(k : Int)] ++ [0]) (inNb nb y) (inNames names y) 0 y.body)).2 = true → J (foldG g t2 (stepsL (path ++ [(k : Int)] ++ [0]) (inNb nb y) (inNames names y) 0 y.body)).1 (stepsL (path ++ [(k : Int)] ++ [1]) (inNb nb y) (inNames names y) 0 y.els).length := by
    have hws : (path ++ [(k : Int)] ++ [0]).length + wtR (y.body.map encStm) ≤ 1000000000 := by simp; omega
    have hnn : (inNames names y).length ≤ names.length + 1 := by unfold inNames; split <;> simp
    exact fun hf => hJ.fold (steps_ok (hx y hm).body' hws (by omega)) hf hj2
   have hj2' := hJ.mono _ _ (stepsL (path ++ [(k : Int)] ++ [0]) (inNb nb y) (inNames names y) 0 y.body).length hj2 (by omega)
   simp only [if_true, if_false, Bool.false_eq_true, List.append_assoc, List.cons_append, List.nil_append] at hr0 hr1 hend hj3 hj2'
   have hc3 : Sp theEnv 84 [.slice .shut ((path ++ [(k : Int)]).map encI)] (.slice (.own 3) ((path ++ [(k : Int)]).map encI)) := clone_int false _ (by simp; omega)
   have ha0 : appO 3 1 8 (.slice (.own 3) ((path ++ [(k : Int)]).map encI)) (.slice (.own 3) [[.int .i64 0]]) = some (.slice (.own 3) ((path ++ [(k : Int), 0]).map encI)) := by
    have := app_cloneI (b := false) (l := path ++ [(k : Int)]) (i := 0) (k := .own 3) (by simp; omega) (by simp)
    simp only [List.append_assoc, List.cons_append, List.nil_append] at this
    exact this
   have ha1 : appO 3 1 8 (.slice (.own 3) ((path ++ [(k : Int)]).map encI)) (.slice (.own 3) [[.int .i64 1]]) = some (.slice (.own 3) ((path ++ [(k : Int), 1]).map encI)) := by
    have := app_cloneI (b := false) (l := path ++ [(k : Int)]) (i := 1) (k := .own 3) (by simp; omega) (by simp)
    simp only [List.append_assoc, List.cons_append, List.nil_append] at this
    exact this
   rw [Run_if]
   simp only [go_sem, Nat.reduceEqDiff, Nat.reduceAdd, Nat.reduceLeDiff, Nat.reduceMul, Nat.reduceSub, Int.reduceLT, Int.reduceLE, Int.reduceEq, Int.reduceAdd, Int.reduceNeg, reduceIte, reduceCtorEq, Nat.reduceLT]
   by_cases hkd : y.kind = 1
   ·have en : inNames names y = names ++ [y.name] := by simp [inNames, hkd]
    have eb : inNb nb y = false := by simp [inNb, hkd]
    simp only [en, eb] at hr0 hr1 hend hj3 hj2' ⊢
    simp only [hkd, go_sem, Nat.reduceEqDiff, Nat.reduceAdd, Nat.reduceLeDiff, Nat.reduceMul, Nat.reduceSub, Int.reduceLT, Int.reduceLE, Int.reduceEq, Int.reduceAdd, Int.reduceNeg, reduceIte, reduceCtorEq, Nat.reduceLT, hkept, hc2.call, app_clone (by omega) hnb, hb1', fAll, hc3.call, ha0]
    rw [CallvS (xs := [.slice (nk y.bn) (y.body.map encStm), .slice (.own 3) ((path ++ [(k : Int), 0]).map encI), .slice .shut ((names ++ [y.name]).map encS)]) (cs := [.ptr m 0 0, .ptr m 1 0]) (hr0 y.bn t2 _ hj2') (by simp only [go_sem, Nat.reduceEqDiff, Nat.reduceAdd, Nat.reduceLeDiff, Nat.reduceMul, Nat.reduceSub, Int.reduceLT, Int.reduceLE, Int.reduceEq, Int.reduceAdd, Int.reduceNeg, reduceIte, reduceCtorEq, Nat.reduceLT]; try rfl) (by simp only [go_sem, Nat.reduceEqDiff, Nat.reduceAdd, Nat.reduceLeDiff, Nat.reduceMul, Nat.reduceSub, Int.reduceLT, Int.reduceLE, Int.reduceEq, Int.reduceAdd, Int.reduceNeg, reduceIte, reduceCtorEq, Nat.reduceLT])]
    simp only [go_sem, Nat.reduceEqDiff, Nat.reduceAdd, Nat.reduceLeDiff, Nat.reduceMul, Nat.reduceSub, Int.reduceLT, Int.reduceLE, Int.reduceEq, Int.reduceAdd, Int.reduceNeg, reduceIte, reduceCtorEq, Nat.reduceLT, foldG_app] at hend ⊢
    generalize foldG g t2 (stepsL (path ++ [(k : Int), 0]) false (names ++ [y.name]) 0 y.body) = r2 at hend hj3 ⊢
    obtain ⟨t3, b3⟩ := r2
    cases b3 with
    | false =>
     have hd := hend (by simp only [go_sem, Nat.reduceEqDiff, Nat.reduceAdd, Nat.reduceLeDiff, Nat.reduceMul, Nat.reduceSub, Int.reduceLT, Int.reduceLE, Int.reduceEq, Int.reduceAdd, Int.reduceNeg, reduceIte, reduceCtorEq, Nat.reduceLT])
     simp only [go_sem, Nat.reduceEqDiff, Nat.reduceAdd, Nat.reduceLeDiff, Nat.reduceMul, Nat.reduceSub, Int.reduceLT, Int.reduceLE, Int.reduceEq, Int.reduceAdd, Int.reduceNeg, reduceIte, reduceCtorEq, Nat.reduceLT, hd, putLev_put]
    | true =>
     simp only [go_sem, Nat.reduceEqDiff, Nat.reduceAdd, Nat.reduceLeDiff, Nat.reduceMul, Nat.reduceSub, Int.reduceLT, Int.reduceLE, Int.reduceEq, Int.reduceAdd, Int.reduceNeg, reduceIte, reduceCtorEq, Nat.reduceLT, hkept, hb1', fAll, hc3.call, ha1]
     rw [CallvS (xs := [.slice (nk y.en) (y.els.map encStm), .slice (.own 3) ((path ++ [(k : Int), 1]).map encI), .slice .shut ((names ++ [y.name]).map encS)]) (cs := [.ptr m 0 0, .ptr m 1 0]) (hr1 y.en t3 _ (hj3 rfl)) (by simp only [go_sem, Nat.reduceEqDiff, Nat.reduceAdd, Nat.reduceLeDiff, Nat.reduceMul, Nat.reduceSub, Int.reduceLT, Int.reduceLE, Int.reduceEq, Int.reduceAdd, Int.reduceNeg, reduceIte, reduceCtorEq, Nat.reduceLT]; try rfl) (by simp only [go_sem, Nat.reduceEqDiff, Nat.reduceAdd, Nat.reduceLeDiff, Nat.reduceMul, Nat.reduceSub, Int.reduceLT, Int.reduceLE, Int.reduceEq, Int.reduceAdd, Int.reduceNeg, reduceIte, reduceCtorEq, Nat.reduceLT])]
     simp only [go_sem, Nat.reduceEqDiff, Nat.reduceAdd, Nat.reduceLeDiff, Nat.reduceMul, Nat.reduceSub, Int.reduceLT, Int.reduceLE, Int.reduceEq, Int.reduceAdd, Int.reduceNeg, reduceIte, reduceCtorEq, Nat.reduceLT] at hend ⊢
     generalize foldG g t3 (stepsL (path ++ [(k : Int), 1]) false (names ++ [y.name]) 0 y.els) = r3 at hend ⊢
     obtain ⟨t4, b4⟩ := r3
     cases b4 with
     | false =>
      have hd := hend (by simp only [go_sem, Nat.reduceEqDiff, Nat.reduceAdd, Nat.reduceLeDiff, Nat.reduceMul, Nat.reduceSub, Int.reduceLT, Int.reduceLE, Int.reduceEq, Int.reduceAdd, Int.reduceNeg, reduceIte, reduceCtorEq, Nat.reduceLT])
      simp only [go_sem, Nat.reduceEqDiff, Nat.reduceAdd, Nat.reduceLeDiff, Nat.reduceMul, Nat.reduceSub, Int.reduceLT, Int.reduceLE, Int.reduceEq, Int.reduceAdd, Int.reduceNeg, reduceIte, reduceCtorEq, Nat.reduceLT, hd, putLev_put]
     | true => simp only [go_sem, Nat.reduceEqDiff, Nat.reduceAdd, Nat.reduceLeDiff, Nat.reduceMul, Nat.reduceSub, Int.reduceLT, Int.reduceLE, Int.reduceEq, Int.reduceAdd, Int.reduceNeg, reduceIte, reduceCtorEq, Nat.reduceLT, putLev_put]
   ·have en : inNames names y = names := by simp [inNames, hkd]
    have eb : inNb nb y = nb := by simp [inNb, hkd]
    simp only [en, eb] at hr0 hr1 hend hj3 hj2' ⊢
    simp only [hkd, go_sem, Nat.reduceEqDiff, Nat.reduceAdd, Nat.reduceLeDiff, Nat.reduceMul, Nat.reduceSub, Int.reduceLT, Int.reduceLE, Int.reduceEq, Int.reduceAdd, Int.reduceNeg, reduceIte, reduceCtorEq, Nat.reduceLT, hkept, hb1', fAll, hc3.call, ha0]
    rw [CallvS (xs := [.slice (nk y.bn) (y.body.map encStm), .slice (.own 3) ((path ++ [(k : Int), 0]).map encI), .slice (nk nb) (names.map encS)]) (cs := [.ptr m 0 0, .ptr m 1 0]) (hr0 y.bn t2 _ hj2') (by simp only [go_sem, Nat.reduceEqDiff, Nat.reduceAdd, Nat.reduceLeDiff, Nat.reduceMul, Nat.reduceSub, Int.reduceLT, Int.reduceLE, Int.reduceEq, Int.reduceAdd, Int.reduceNeg, reduceIte, reduceCtorEq, Nat.reduceLT]; try rfl) (by simp only [go_sem, Nat.reduceEqDiff, Nat.reduceAdd, Nat.reduceLeDiff, Nat.reduceMul, Nat.reduceSub, Int.reduceLT, Int.reduceLE, Int.reduceEq, Int.reduceAdd, Int.reduceNeg, reduceIte, reduceCtorEq, Nat.reduceLT])]
    simp only [go_sem, Nat.reduceEqDiff, Nat.reduceAdd, Nat.reduceLeDiff, Nat.reduceMul, Nat.reduceSub, Int.reduceLT, Int.reduceLE, Int.reduceEq, Int.reduceAdd, Int.reduceNeg, reduceIte, reduceCtorEq, Nat.reduceLT, foldG_app] at hend ⊢
    generalize foldG g t2 (stepsL (path ++ [(k : Int), 0]) nb names 0 y.body) = r2 at hend hj3 ⊢
    obtain ⟨t3, b3⟩ := r2
    cases b3 with
    | false =>
     have hd := hend (by simp only [go_sem, Nat.reduceEqDiff, Nat.reduceAdd, Nat.reduceLeDiff, Nat.reduceMul, Nat.reduceSub, Int.reduceLT, Int.reduceLE, Int.reduceEq, Int.reduceAdd, Int.reduceNeg, reduceIte, reduceCtorEq, Nat.reduceLT])
     simp only [go_sem, Nat.reduceEqDiff, Nat.reduceAdd, Nat.reduceLeDiff, Nat.reduceMul, Nat.reduceSub, Int.reduceLT, Int.reduceLE, Int.reduceEq, Int.reduceAdd, Int.reduceNeg, reduceIte, reduceCtorEq, Nat.reduceLT, hd, putLev_put]
    | true =>
     simp only [go_sem, Nat.reduceEqDiff, Nat.reduceAdd, Nat.reduceLeDiff, Nat.reduceMul, Nat.reduceSub, Int.reduceLT, Int.reduceLE, Int.reduceEq, Int.reduceAdd, Int.reduceNeg, reduceIte, reduceCtorEq, Nat.reduceLT, hkept, hb1', fAll, hc3.call, ha1]
     rw [CallvS (xs := [.slice (nk y.en) (y.els.map encStm), .slice (.own 3) ((path ++ [(k : Int), 1]).map encI), .slice (nk nb) (names.map encS)]) (cs := [.ptr m 0 0, .ptr m 1 0]) (hr1 y.en t3 _ (hj3 rfl)) (by simp only [go_sem, Nat.reduceEqDiff, Nat.reduceAdd, Nat.reduceLeDiff, Nat.reduceMul, Nat.reduceSub, Int.reduceLT, Int.reduceLE, Int.reduceEq, Int.reduceAdd, Int.reduceNeg, reduceIte, reduceCtorEq, Nat.reduceLT]; try rfl) (by simp only [go_sem, Nat.reduceEqDiff, Nat.reduceAdd, Nat.reduceLeDiff, Nat.reduceMul, Nat.reduceSub, Int.reduceLT, Int.reduceLE, Int.reduceEq, Int.reduceAdd, Int.reduceNeg, reduceIte, reduceCtorEq, Nat.reduceLT])]
     simp only [go_sem, Nat.reduceEqDiff, Nat.reduceAdd, Nat.reduceLeDiff, Nat.reduceMul, Nat.reduceSub, Int.reduceLT, Int.reduceLE, Int.reduceEq, Int.reduceAdd, Int.reduceNeg, reduceIte, reduceCtorEq, Nat.reduceLT] at hend ⊢
     generalize foldG g t3 (stepsL (path ++ [(k : Int), 1]) nb names 0 y.els) = r3 at hend ⊢
     obtain ⟨t4, b4⟩ := r3
     cases b4 with
     | false =>
      have hd := hend (by simp only [go_sem, Nat.reduceEqDiff, Nat.reduceAdd, Nat.reduceLeDiff, Nat.reduceMul, Nat.reduceSub, Int.reduceLT, Int.reduceLE, Int.reduceEq, Int.reduceAdd, Int.reduceNeg, reduceIte, reduceCtorEq, Nat.reduceLT])
      simp only [go_sem, Nat.reduceEqDiff, Nat.reduceAdd, Nat.reduceLeDiff, Nat.reduceMul, Nat.reduceSub, Int.reduceLT, Int.reduceLE, Int.reduceEq, Int.reduceAdd, Int.reduceNeg, reduceIte, reduceCtorEq, Nat.reduceLT, hd, putLev_put]
     | true => simp only [go_sem, Nat.reduceEqDiff, Nat.reduceAdd, Nat.reduceLeDiff, Nat.reduceMul, Nat.reduceSub, Int.reduceLT, Int.reduceLE, Int.reduceEq, Int.reduceAdd, Int.reduceNeg, reduceIte, reduceCtorEq, Nat.reduceLT, putLev_put]
 ·rintro F _ ⟨B, hfold, rfl⟩ hkept
  simp only [go_sem, Nat.reduceEqDiff, Nat.reduceAdd, Nat.reduceLeDiff, Nat.reduceMul, Nat.reduceSub, Int.reduceLT, Int.reduceLE, Int.reduceEq, Int.reduceAdd, Int.reduceNeg, reduceIte, reduceCtorEq, Nat.reduceLT] at hkept
  rw [List.take_length] at hfold ⊢
  simp only [go_sem, Nat.reduceEqDiff, Nat.reduceAdd, Nat.reduceLeDiff, Nat.reduceMul, Nat.reduceSub, Int.reduceLT, Int.reduceLE, Int.reduceEq, Int.reduceAdd, Int.reduceNeg, reduceIte, reduceCtorEq, Nat.reduceLT, hkept, hfold, putLev_put]
end
end Wp
end AM
end Go.Proofs.YtimfbnojmdnlnaaGreat
end
section
namespace Go.Proofs.YtimfbnojmdnlnaaGreat
namespace AM
namespace Wp
section
variable {σ : Type}
theorem all_stm {l m : Nat} {fr : σ → Lev} {g : σ → Step → σ × Bool} {J : σ → Nat → Prop} (hy : YSp l fr g J) (hJ : Bud g J) (hml : m ≠ l) : ∀ s, OkStm s → wtL (encStm s) ≤ 1000000000 → AllSp l m fr g J s.body ∧ AllSp l m fr g J s.els := by
 refine Stm.ind fun s ihb ihe hs hw => ?_
 rw [wl_Stm] at hw
 refine ⟨all_list hy hJ hml s.body hs.body' (by omega) (fun x hx => (ihb x hx (hs.body' x hx) ?_).1) fun x hx => (ihb x hx (hs.body' x hx) ?_).2, all_list hy hJ hml s.els hs.els' (by omega) (fun x hx => (ihe x hx (hs.els' x hx) ?_).1) fun x hx => (ihe x hx (hs.els' x hx) ?_).2⟩
 all_goals
  have := wt_part (enc := encStm) hx
  omega
theorem all_prg {l m : Nat} {fr : σ → Lev} {g : σ → Step → σ × Bool} {J : σ → Nat → Prop} (hy : YSp l fr g J) (hJ : Bud g J) (hml : m ≠ l) {xs : List Stm} (hx : ∀ s ∈ xs, OkStm s) (hw : wtR (xs.map encStm) ≤ 1000000000) : AllSp l m fr g J xs :=
 all_list hy hJ hml xs hx hw (fun x hm => (all_stm hy hJ hml x (hx x hm) (by have := wt_part (enc := encStm) hm; omega)).1) fun x hm => (all_stm hy hJ hml x (hx x hm) (by have := wt_part (enc := encStm) hm; omega)).2
def allSteps (p : Prg) : List Step := stepsL [] p.pn p.params 0 p.body
theorem walk1_ok {l q : Nat} {fr : σ → Lev} {g : σ → Step → σ × Bool} {J : σ → Nat → Prop} (hy : YSp l fr g J) (hJ : Bud g J) {p : Prg} (hp : OkPrg p) (hw : wtL (encPrg p) ≤ 800000000) {t : σ} {S : St} (hlev : getLev S l = some (fr t)) (hbox : getBox S l q = some (encPrg p)) (hj : J t (allSteps p).length) :
  CallIs theEnv (.fn 82) [.func (.yield l) [], .ptr l q 0] S (.ret (.tup [])) (putLev S l (fr (foldG g t (allSteps p)).1)) := by
 have hl := getLev_lt hlev
 have hm : S.length ≠ l := by omega
 have hw2 : wtR (p.body.map encStm) + p.params.length ≤ 800000000 := by
  have := wtR_len (enc := encS) (fun x => by simp [encS, wtL, wt]) p.params
  simp only [encPrg, wtL, wt, encStms_map] at hw
  omega
 refine CallIs.fn rfl rfl rfl ?_
 have hb1 := fun T => getBox_up (T := T) hbox
 have hA := all_prg hy hJ hm hp.bs (by omega) p.bn true p.pn [] p.params t (⟨[[.func (.yield l) []], [fAll S.length]], none⟩ :: S) (fun _ => rfl) hp.pz (by simp; omega) (by omega) (getLev_up hlev) (by simp only [go_sem, Nat.reduceEqDiff, Nat.reduceAdd, Nat.reduceLeDiff, Nat.reduceMul, Nat.reduceSub, Int.reduceLT, Int.reduceLE, Int.reduceEq, Int.reduceAdd, Int.reduceNeg, reduceIte, reduceCtorEq, Nat.reduceLT]) (by simp only [go_sem, Nat.reduceEqDiff, Nat.reduceAdd, Nat.reduceLeDiff, Nat.reduceMul, Nat.reduceSub, Int.reduceLT, Int.reduceLE, Int.reduceEq, Int.reduceAdd, Int.reduceNeg, reduceIte, reduceCtorEq, Nat.reduceLT]) hj
 rw [putLev_up hlev] at hA
 simp only [a82, c82, go_sem, Nat.reduceEqDiff, Nat.reduceAdd, Nat.reduceLeDiff, Nat.reduceMul, Nat.reduceSub, Int.reduceLT, Int.reduceLE, Int.reduceEq, Int.reduceAdd, Int.reduceNeg, reduceIte, reduceCtorEq, Nat.reduceLT, hb1]
 refine ⟨by omega, ?_⟩
 have hA' : CallIs theEnv (.fn 83) [.slice (nk p.bn) (p.body.map encStm), .slice .nil [], .slice (nk p.pn) (p.params.map encS), .ptr S.length 0 0, .ptr S.length 1 0] (⟨[[.func (.yield l) []], [.func (.func 83) [.ptr S.length 0 0, .ptr S.length 1 0]]], none⟩ :: S) (.ret (.bool (foldG g t (allSteps p)).2)) (⟨[[.func (.yield l) []], [.func (.func 83) [.ptr S.length 0 0, .ptr S.length 1 0]]], none⟩ :: putLev S l (fr (foldG g t (allSteps p)).1)) := hA
 rw [CallvS (xs := [.slice (nk p.bn) (p.body.map encStm), .slice .nil [], .slice (nk p.pn) (p.params.map encS)]) (cs := [.ptr S.length 0 0, .ptr S.length 1 0]) hA' (by simp only [go_sem, Nat.reduceEqDiff, Nat.reduceAdd, Nat.reduceLeDiff, Nat.reduceMul, Nat.reduceSub, Int.reduceLT, Int.reduceLE, Int.reduceEq, Int.reduceAdd, Int.reduceNeg, reduceIte, reduceCtorEq, Nat.reduceLT]; try rfl) (by simp only [go_sem, Nat.reduceEqDiff, Nat.reduceAdd, Nat.reduceLeDiff, Nat.reduceMul, Nat.reduceSub, Int.reduceLT, Int.reduceLE, Int.reduceEq, Int.reduceAdd, Int.reduceNeg, reduceIte, reduceCtorEq, Nat.reduceLT])]
 simp only [go_sem, Nat.reduceEqDiff, Nat.reduceAdd, Nat.reduceLeDiff, Nat.reduceMul, Nat.reduceSub, Int.reduceLT, Int.reduceLE, Int.reduceEq, Int.reduceAdd, Int.reduceNeg, reduceIte, reduceCtorEq, Nat.reduceLT]
end
theorem walk_esc (p : Prg) : CallIs theEnv (.fn 46) [.agg (encPrg p)] [] (.esc (.func (.func 82) [.ptr 0 0 0]) [encPrg p]) [] := by
 obtain ⟨⟨e, F, T⟩, ⟨K, h1⟩, h2, h3, h4⟩ := EvQ_run (E := theEnv) (c := c46) (F := args0 [.agg (encPrg p)]) (S := [⟨[], none⟩]) (Q := fun e F T => e = .ret ∧ F 2 = .func (.func 82) [.ptr 0 0 0] ∧ T = [⟨[encPrg p], none⟩]) (by simp only [c46, go_sem, Nat.reduceEqDiff, Nat.reduceAdd, Nat.reduceLeDiff, Nat.reduceMul, Nat.reduceSub, Int.reduceLT, Int.reduceLE, Int.reduceEq, Int.reduceAdd, Int.reduceNeg, reduceIte, reduceCtorEq, Nat.reduceLT])
 simp only at h2 h3 h4
 subst h2 h4
 refine ⟨K + 1, fun j hj => ?_⟩
 obtain ⟨j, rfl⟩ : ∃ m, j = m + 1 := ⟨j - 1, by omega⟩
 have hx : theEnv.ext 46 = none := rfl
 have hf : theEnv.fn 46 = some a46 := rfl
 have h := h1 j j (by omega) (by omega)
 simp only [callN, callBody, hx, hf, a46, List.length_cons, List.length_nil, if_true]
 have hm : theEnv.meth = theMeth := rfl
 simp only [h, leave, results, resOf, h3]
 rfl
end Wp
end AM
end Go.Proofs.YtimfbnojmdnlnaaGreat
end
section
namespace Go.Proofs.YtimfbnojmdnlnaaGreat
namespace AM
namespace Wp
structure Info where
 path : List Int
 nb : Bool
 names : List ByteArray
 s : Stm
 rd : List Ref
def encInfo (x : Info) : List V := V.slice .shut (x.path.map encI) :: V.slice (nk x.nb) (x.names.map encS) :: (encStm x.s ++ [V.slice (nk x.rd.isEmpty) (x.rd.map encRef)])
def infoOf (x : Step) : Info := ⟨x.path, x.nb, x.names, copyStm x.s, readsE x.s.value⟩
def addInfo (acc : List Info) (x : Step) : List Info × Bool := (if x.s.kind = 3 then acc ++ [infoOf x] else acc, true)
def budInfo (acc : List Info) (n : Nat) : Prop := acc.length + n ≤ 900000000
theorem bud_info : Bud addInfo budInfo := {
 mono t n m h hm := by unfold budInfo at *; omega
 step t x n _ _ h := by
  unfold budInfo addInfo at *
  split <;> simp <;> omega }
def stepC (x : Step) : List V := V.slice .shut (x.path.map encI) :: V.slice (nk x.nb) (x.names.map encS) :: encStm x.s
theorem step_c (x : Step) : encStep x = stepC x := rfl
theorem strip_step (x : Step) : (stepC x).map strip = stepC x := by simp only [stepC, List.map_cons, strip_Stm, strip_nk]; rfl
theorem len_step (x : Step) : (stepC x).length = 21 := by simp only [stepC, List.length_cons, len_Stm]
@[go_sem] theorem dz_step (x : Step) : dz (some (stepC x)) = some (stepC x) := dz_len (by rw [len_step]; decide)
theorem low_step (x : Step) (n : Nat) : lowL n (stepC x) = true := by simp [stepC, lowL, low, low_Stm]
theorem lowL_append {n : Nat} : ∀ {xs ys : List V}, lowL n (xs ++ ys) = (lowL n xs && lowL n ys)
 | [], ys => by simp [lowL]
 | x :: xs, ys => by simp only [List.cons_append, lowL, lowL_append, Bool.and_assoc]
theorem setAt_last {a b : V} (s : Stm) : setAt (encStm s ++ [a]) 19 [b] = encStm s ++ [b] := by
 have h := len_Stm s
 simp [setAt, List.take_append, h, List.drop_append, List.drop_eq_nil_of_le]
theorem RoundEnd_nrm {l : Nat} {P : Out → St → Prop} {F F' : Fr} {ps : List Nat} {asg body : ACode} {L : List (List V)} {T : Lev} {R : St} (h : getLev R l = some ⟨L, some ⟨F, ps, asg, body, some .nrm⟩⟩) (hp : P (.ret (.bool true)) (putLev R l ⟨L, some ⟨F, ps, asg, body, none⟩⟩)) : RoundEnd l P .nrm F' (T :: R) :=
 ⟨F, ps, asg, body, L, h, hp⟩
theorem getBox_at {S : St} {l i : Nat} {T y x : Lev} (h : getLev S l = some y) : getBox (T :: putLev S l x) l i = dz x.bs[i]? := by
 have hl := getLev_lt h
 rw [getBox_lev, getLev_up (getLev_put h)]; rfl
theorem setBox_at {S : St} {l i : Nat} {T y x : Lev} {cs : List V} (h : getLev S l = some y) : setBox (T :: putLev S l x) l i cs = T :: putLev S l ⟨x.bs.set i cs, x.lp⟩ := by
 rw [setBox_lev (getLev_up (getLev_put h)), putLev_up (getLev_put h), putLev_put]
def asgA : ACode := (.reg [ .seq ⟨some 6, .al [.slice .nil [], .slice .nil [], .int .i64 0, .str ⟨#[]⟩, .slice .nil [], .slice .nil [], .int .i64 0, .int .i64 0, .int .i64 0, .slice .nil [], .int .i64 0, .slice .nil [], .int .i64 0, .int .i64 0, .slice .nil [], .int .i64 0, .int .i64 0, .slice .nil [], .slice .nil [], .slice .nil [], .slice .nil []], none⟩, .seq ⟨none, .st 21 (.t 6) (.t 14), none⟩])
def bodyA : ACode := (.blk 1 (.seq (.reg [ .seq ⟨some 15, .fa 2 (.t 6), none⟩, .seq ⟨some 16, .fa 0 (.t 15), none⟩, .seq ⟨some 17, .ld false 1 false (.t 16), none⟩, .seq ⟨some 18, .bin .eql 0 (.t 17) (.c (.int .i64 3)), none⟩]) (.cond (.t 18) (.reg [ .free [⟨some 19, .ld true 1 false (.t 5), none⟩, ⟨some 20, .fa 0 (.t 6), none⟩, ⟨some 21, .ld false 1 false (.t 20), none⟩, ⟨some 22, .fa 1 (.t 6), none⟩, ⟨some 23, .ld false 1 false (.t 22), none⟩, ⟨some 24, .fa 2 (.t 6), none⟩, ⟨some 25, .ld false 19 true (.t 24), none⟩, ⟨some 26, .call 47 [(.t 25)], none⟩, ⟨some 27, .fa 2 (.t 6), none⟩, ⟨some 28, .fa 10 (.t 27), none⟩, ⟨some 29, .ld false 7 true (.t 28), none⟩, ⟨some 30, .call 48 [(.t 29)], none⟩, ⟨some 31, .bld [.slice .nil [], .slice .nil [], .int .i64 0, .str ⟨#[]⟩, .slice .nil [], .slice .nil [], .int .i64 0, .int .i64 0, .int .i64 0, .slice .nil [], .int .i64 0, .slice .nil [], .int .i64 0, .int .i64 0, .slice .nil [], .int .i64 0, .int .i64 0, .slice .nil [], .slice .nil [], .slice .nil [], .slice .nil [], .slice .nil []] [(0, 1, (.t 21)), (1, 1, (.t 23)), (2, 19, (.t 26)), (21, 1, (.t 30))], none⟩, ⟨some 32, .row 56 22 [(.t 31)], none⟩], .seq ⟨some 33, .app 56 22 376 (.t 19) (.t 32), none⟩, .seq ⟨none, .st 1 (.t 5) (.t 33), none⟩]) (.nop))))
def frA (p : Prg) (F0 : Fr) (acc : List Info) : Lev := ⟨[encPrg p, [grown 56 (acc.map encInfo)], encPrg p], some ⟨F0, [14], asgA, bodyA, none⟩⟩
theorem roundA (h78 : SetCopy) {p : Prg} {F0 : Fr} {l : Nat} (h5 : F0 5 = .ptr l 1 0) : YSp l (frA p F0) addInfo budInfo := by
 rintro acc x S ⟨hxo, hxw, hxp, _⟩ hj hlev
 have hl := getLev_lt hlev
 have hc1 := copy_stm h78 x.s hxo hxw
 have hc2 := reads_ok x.s.value hxo.value' (by rw [wl_Stm] at hxw; omega)
 suffices h : CallQ theEnv (.yield l) [.agg (encStep x)] S fun o S' => o = .ret (.bool (addInfo acc x).2) ∧ S' = putLev S l (frA p F0 (addInfo acc x).1) by
  obtain ⟨o, S', h1, rfl, rfl⟩ := h
  exact h1
 refine CallQ_yield hlev rfl ?_
 simp only [step_c, asgA, putPs, go_sem, Nat.reduceEqDiff, Nat.reduceAdd, Nat.reduceLeDiff, Nat.reduceMul, Nat.reduceSub, Int.reduceLT, Int.reduceLE, Int.reduceEq, Int.reduceAdd, Int.reduceNeg, reduceIte, reduceCtorEq, Nat.reduceLT, strip_step, len_step, low_step]
 refine ⟨_, _, _, _, _, getLev_up hlev, ?_⟩
 rw [putLev_up hlev]
 have hG := fun T x i => getBox_at (T := T) (x := x) (i := i) hlev
 have hB := fun T x i cs => setBox_at (T := T) (x := x) (i := i) (cs := cs) hlev
 unfold budInfo at hj
 have hlen : (acc.map encInfo).length ≤ 1000000000 := by simp; omega
 have hap : acc.map encInfo ++ [encInfo (infoOf x)] = (acc ++ [infoOf x]).map encInfo := by simp
 have hrun : ∀ F S Q, Run theEnv [KI.c bodyA] F S Q = Run theEnv [KI.c (.blk 1 (.seq (.reg [ .seq ⟨some 15, .fa 2 (.t 6), none⟩, .seq ⟨some 16, .fa 0 (.t 15), none⟩, .seq ⟨some 17, .ld false 1 false (.t 16), none⟩, .seq ⟨some 18, .bin .eql 0 (.t 17) (.c (.int .i64 3)), none⟩]) (.cond (.t 18) (.reg [ .free [⟨some 19, .ld true 1 false (.t 5), none⟩, ⟨some 20, .fa 0 (.t 6), none⟩, ⟨some 21, .ld false 1 false (.t 20), none⟩, ⟨some 22, .fa 1 (.t 6), none⟩, ⟨some 23, .ld false 1 false (.t 22), none⟩, ⟨some 24, .fa 2 (.t 6), none⟩, ⟨some 25, .ld false 19 true (.t 24), none⟩, ⟨some 26, .call 47 [(.t 25)], none⟩, ⟨some 27, .fa 2 (.t 6), none⟩, ⟨some 28, .fa 10 (.t 27), none⟩, ⟨some 29, .ld false 7 true (.t 28), none⟩, ⟨some 30, .call 48 [(.t 29)], none⟩, ⟨some 31, .bld [.slice .nil [], .slice .nil [], .int .i64 0, .str ⟨#[]⟩, .slice .nil [], .slice .nil [], .int .i64 0, .int .i64 0, .int .i64 0, .slice .nil [], .int .i64 0, .slice .nil [], .int .i64 0, .int .i64 0, .slice .nil [], .int .i64 0, .int .i64 0, .slice .nil [], .slice .nil [], .slice .nil [], .slice .nil [], .slice .nil []] [(0, 1, (.t 21)), (1, 1, (.t 23)), (2, 19, (.t 26)), (21, 1, (.t 30))], none⟩, ⟨some 32, .row 56 22 [(.t 31)], none⟩], .seq ⟨some 33, .app 56 22 376 (.t 19) (.t 32), none⟩, .seq ⟨none, .st 1 (.t 5) (.t 33), none⟩]) (.nop))))] F S Q := fun _ _ _ => rfl
 have e3 : V.slice .shut (x.path.map encI) :: V.slice (nk x.nb) (x.names.map encS) :: (encStm (copyStm x.s) ++ [V.slice (nk ((readsE x.s.value).map encRef).isEmpty) ((readsE x.s.value).map encRef)]) = encInfo (infoOf x) := by simp [encInfo, infoOf]
 have hl22 : (encInfo (infoOf x)).length = 22 := by simp [encInfo, len_Stm]
 have hlow : ∀ n, lowL n (encInfo (infoOf x)) = true := fun n => by rw [← e3]; simp [lowL, low, lowL_append, low_Stm]
 have hstr : (encInfo (infoOf x)).map strip = encInfo (infoOf x) := by rw [← e3]; simp [strip_Stm, strip_nk]; rfl
 rw [hrun]
 simp only [stepC, go_sem, Nat.reduceEqDiff, Nat.reduceAdd, Nat.reduceLeDiff, Nat.reduceMul, Nat.reduceSub, Int.reduceLT, Int.reduceLE, Int.reduceEq, Int.reduceAdd, Int.reduceNeg, reduceIte, reduceCtorEq, Nat.reduceLT, hG, Run_if]
 by_cases hk : x.s.kind = 3
 ·simp only [addInfo, hk, if_true, frA, ← hap]
  revert hlen
  generalize acc.map encInfo = xs
  intro hlen
  cases xs with
  | nil =>
   simp only [go_sem, Nat.reduceEqDiff, Nat.reduceAdd, Nat.reduceLeDiff, Nat.reduceMul, Nat.reduceSub, Int.reduceLT, Int.reduceLE, Int.reduceEq, Int.reduceAdd, Int.reduceNeg, reduceIte, reduceCtorEq, Nat.reduceLT, hG, hB, h5, hc1.call, hc2.call, Wk_enter, List.length_append, setAt_last, List.map_append, lowL_append]
   simp only [e3, hl22, hlow, hstr, go_sem, Nat.reduceEqDiff, Nat.reduceAdd, Nat.reduceLeDiff, Nat.reduceMul, Nat.reduceSub, Int.reduceLT, Int.reduceLE, Int.reduceEq, Int.reduceAdd, Int.reduceNeg, reduceIte, reduceCtorEq, Nat.reduceLT, hG, hB, h5, Wk_enter]
   exact RoundEnd_nrm (getLev_put hlev) ⟨rfl, putLev_put⟩
  | cons c xs =>
   simp only [go_sem, Nat.reduceEqDiff, Nat.reduceAdd, Nat.reduceLeDiff, Nat.reduceMul, Nat.reduceSub, Int.reduceLT, Int.reduceLE, Int.reduceEq, Int.reduceAdd, Int.reduceNeg, reduceIte, reduceCtorEq, Nat.reduceLT, hG, hB, h5, hc1.call, hc2.call, Wk_enter, List.length_append, setAt_last, List.map_append, lowL_append]
   simp only [e3, hl22, hlow, hstr, go_sem, Nat.reduceEqDiff, Nat.reduceAdd, Nat.reduceLeDiff, Nat.reduceMul, Nat.reduceSub, Int.reduceLT, Int.reduceLE, Int.reduceEq, Int.reduceAdd, Int.reduceNeg, reduceIte, reduceCtorEq, Nat.reduceLT, hG, hB, h5, Wk_enter, app1 hl22 hlen]
   exact RoundEnd_nrm (getLev_put hlev) ⟨rfl, putLev_put⟩
 ·simp only [addInfo, hk, frA, go_sem, Nat.reduceEqDiff, Nat.reduceAdd, Nat.reduceLeDiff, Nat.reduceMul, Nat.reduceSub, Int.reduceLT, Int.reduceLE, Int.reduceEq, Int.reduceAdd, Int.reduceNeg, reduceIte, reduceCtorEq, Nat.reduceLT]
  exact RoundEnd_nrm (getLev_put hlev) ⟨rfl, putLev_put⟩
theorem assigns_ok (h78 : SetCopy) {p : Prg} (hp : OkPrg p) (hw : wtL (encPrg p) ≤ 500000000) (hs : (allSteps p).length ≤ 500000000) : Sp theEnv 13 [.agg (encPrg p)] (if chkPrg p then .tup [.slice (nk (foldG addInfo [] (allSteps p)).1.isEmpty) ((foldG addInfo [] (allSteps p)).1.map encInfo), .int .i64 0] else .tup [.slice .nil [], .int .i64 1]) := by
 refine Sp.fn rfl rfl rfl (by simp only [go_sem, Nat.reduceEqDiff, Nat.reduceAdd, Nat.reduceLeDiff, Nat.reduceMul, Nat.reduceSub, Int.reduceLT, Int.reduceLE, Int.reduceEq, Int.reduceAdd, Int.reduceNeg, reduceIte, reduceCtorEq, Nat.reduceLT]) (by split <;> simp only [go_sem, Nat.reduceEqDiff, Nat.reduceAdd, Nat.reduceLeDiff, Nat.reduceMul, Nat.reduceSub, Int.reduceLT, Int.reduceLE, Int.reduceEq, Int.reduceAdd, Int.reduceNeg, reduceIte, reduceCtorEq, Nat.reduceLT, implies_true]) fun S => ?_
 simp only [a13, c13, go_sem, Nat.reduceEqDiff, Nat.reduceAdd, Nat.reduceLeDiff, Nat.reduceMul, Nat.reduceSub, Int.reduceLT, Int.reduceLE, Int.reduceEq, Int.reduceAdd, Int.reduceNeg, reduceIte, reduceCtorEq, Nat.reduceLT, (check_ok hp).call]
 rw [Run_if]
 simp only [go_sem, Nat.reduceEqDiff, Nat.reduceAdd, Nat.reduceLeDiff, Nat.reduceMul, Nat.reduceSub, Int.reduceLT, Int.reduceLE, Int.reduceEq, Int.reduceAdd, Int.reduceNeg, reduceIte, reduceCtorEq, Nat.reduceLT]
 split
 ·simp only [go_sem, Nat.reduceEqDiff, Nat.reduceAdd, Nat.reduceLeDiff, Nat.reduceMul, Nat.reduceSub, Int.reduceLT, Int.reduceLE, Int.reduceEq, Int.reduceAdd, Int.reduceNeg, reduceIte, reduceCtorEq, Nat.reduceLT]
  rw [Call_esc (walk_esc p) (by simp only [go_sem, Nat.reduceEqDiff, Nat.reduceAdd, Nat.reduceLeDiff, Nat.reduceMul, Nat.reduceSub, Int.reduceLT, Int.reduceLE, Int.reduceEq, Int.reduceAdd, Int.reduceNeg, reduceIte, reduceCtorEq, Nat.reduceLT]) rfl (by simp only [barest, encPrg]; rfl)]
  simp only [go_sem, Nat.reduceEqDiff, Nat.reduceAdd, Nat.reduceLeDiff, Nat.reduceMul, Nat.reduceSub, Int.reduceLT, Int.reduceLE, Int.reduceEq, Int.reduceAdd, Int.reduceNeg, reduceIte, reduceCtorEq, Nat.reduceLT, reloc, relocL, List.map_cons, List.map_nil]
  have e : relocL 0 S.length 2 (encPrg p) = encPrg p := rfl
  rw [e]
  refine Run_rng (f := 82) (cs := [.ptr S.length 2 0]) (by simp only [go_sem, Nat.reduceEqDiff, Nat.reduceAdd, Nat.reduceLeDiff, Nat.reduceMul, Nat.reduceSub, Int.reduceLT, Int.reduceLE, Int.reduceEq, Int.reduceAdd, Int.reduceNeg, reduceIte, reduceCtorEq, Nat.reduceLT]) (by simp only [go_sem, Nat.reduceEqDiff, Nat.reduceAdd, Nat.reduceLeDiff, Nat.reduceMul, Nat.reduceSub, Int.reduceLT, Int.reduceLE, Int.reduceEq, Int.reduceAdd, Int.reduceNeg, reduceIte, reduceCtorEq, Nat.reduceLT]) ?_
  generalize hF : (fun t => calm (put _ _ _ t)) = F0
  have h5 : F0 5 = .ptr S.length 1 0 := by rw [← hF]; simp only [go_sem, Nat.reduceEqDiff, Nat.reduceAdd, Nat.reduceLeDiff, Nat.reduceMul, Nat.reduceSub, Int.reduceLT, Int.reduceLE, Int.reduceEq, Int.reduceAdd, Int.reduceNeg, reduceIte, reduceCtorEq, Nat.reduceLT]; rfl
  have hw1 := walk1_ok (l := S.length) (q := 2) (fr := frA p F0) (g := addInfo) (J := budInfo) (roundA h78 h5) bud_info hp (by omega) (t := []) (S := ⟨[encPrg p, [.slice .nil []], encPrg p], some ⟨F0, [14], asgA, bodyA, none⟩⟩ :: S) (by simp only [getLev, if_true]; rfl) (by simp only [go_sem, Nat.reduceEqDiff, Nat.reduceAdd, Nat.reduceLeDiff, Nat.reduceMul, Nat.reduceSub, Int.reduceLT, Int.reduceLE, Int.reduceEq, Int.reduceAdd, Int.reduceNeg, reduceIte, reduceCtorEq, Nat.reduceLT]) (by unfold budInfo; simp; omega)
  refine ⟨_, _, hw1, ?_⟩
  simp only [putLev, if_true, frA, RngEnd]
  generalize (foldG addInfo [] (allSteps p)).1 = acc
  have hz : acc.isEmpty = (acc.map encInfo).isEmpty := by simp
  rw [hz]
  generalize acc.map encInfo = xs
  cases xs with
  | nil => simp only [go_sem, Nat.reduceEqDiff, Nat.reduceAdd, Nat.reduceLeDiff, Nat.reduceMul, Nat.reduceSub, Int.reduceLT, Int.reduceLE, Int.reduceEq, Int.reduceAdd, Int.reduceNeg, reduceIte, reduceCtorEq, Nat.reduceLT, List.isEmpty_nil]
  | cons c xs => simp only [go_sem, Nat.reduceEqDiff, Nat.reduceAdd, Nat.reduceLeDiff, Nat.reduceMul, Nat.reduceSub, Int.reduceLT, Int.reduceLE, Int.reduceEq, Int.reduceAdd, Int.reduceNeg, reduceIte, reduceCtorEq, Nat.reduceLT, List.isEmpty_cons]
 ·simp only [go_sem, Nat.reduceEqDiff, Nat.reduceAdd, Nat.reduceLeDiff, Nat.reduceMul, Nat.reduceSub, Int.reduceLT, Int.reduceLE, Int.reduceEq, Int.reduceAdd, Int.reduceNeg, reduceIte, reduceCtorEq, Nat.reduceLT]
end Wp
end AM
end Go.Proofs.YtimfbnojmdnlnaaGreat
end
