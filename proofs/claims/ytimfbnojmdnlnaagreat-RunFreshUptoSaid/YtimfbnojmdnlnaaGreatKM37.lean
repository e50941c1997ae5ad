/- SameMemory; the example of the chapter in a call; The law RunFresh, on trees. -/
import Derived.Test.YtimfbnojmdnlnaaGreatKM35
import Derived.Test.YtimfbnojmdnlnaaGreatKScD
import Derived.Test.YtimfbnojmdnlnaaGreatKEvB
set_option linter.unusedVariables false
set_option linter.unusedSimpArgs false
set_option maxRecDepth 100000
section
namespace Go.Proofs.YtimfbnojmdnlnaaGreat
namespace AM
theorem awake12_fuel (k : Nat) : callN theEnv (k + 300) (.fn 27) [] [] = some (.ret (.bool true), []) := by kernel_rfl
theorem awake12_ev : EvC theEnv 27 [] (.bool true) := ⟨300, fun j hj => by
 obtain ⟨k, rfl⟩ : ∃ k, j = k + 300 := ⟨j - 300, by omega⟩
 exact awake12_fuel k⟩
namespace Wp
section
variable {E : Env} {d : Option Nat} {cn : Cn} {ks : List KI} {F : Fr} {S : St} {Q : Ex → Fr → St → Prop}
theorem evc12_q {f : Nat} {args : List V} {v : V} (h : EvC E f args v) : CallIs E (.fn f) args [] (.ret v) [] := h
theorem evc12_call {f : Nat} {args : List V} {v : V} (h : EvC E f args v) (ha : lowL 0 args = true) (hl : ∀ n, low n v = true) : Call E f args d cn ks F S Q = Wk E cn ks (putO F d v) S Q := by
 unfold Call
 cases cn with
 | s bs =>
  simp only [callK, ha, if_true]
  rw [(evc12_q h).q]
  simp [hl]
 | f all os bs =>
  simp only [ha]
  rw [(evc12_q h).q]
  simp [hl]
theorem awake12_c : Call theEnv 27 [] d cn ks F S Q = Wk theEnv cn ks (putO F d (.bool true)) S Q :=
 evc12_call awake12_ev rfl fun _ => rfl
end
@[go_sem] theorem len_Mem (x : Mem) : (encMem x).length = 1 := _root_.id rfl
@[go_sem] theorem one_Mem (x : Mem) : cutV (encMem x) 0 1 false = some (.slice (nk x.n) (x.row.map encI)) := by
 simp only [encMem, go_sem, Nat.reduceEqDiff, Nat.reduceAdd, Nat.reduceLeDiff, Nat.reduceMul, Nat.reduceSub, Int.reduceLT, Int.reduceLE, Int.reduceEq, Int.reduceAdd, Int.reduceNeg, reduceIte, reduceCtorEq, Nat.reduceLT, strip_nk]
def rowEq (p : Mem × Mem) : Bool := decide (p.1.row.length = p.2.row.length) && decide (ordI p.1.row p.2.row = 0)
def memEq (a b : List Mem) : Bool := decide (a.length = b.length) && (a.zip b).all rowEq
theorem ordI_same : ∀ a : List Int, ordI a a = 0
 | [] => rfl
 | x :: a => by simp [ordI, ordI_same a]
theorem memEq_rows {a b : List Mem} (h : a.map (·.row) = b.map (·.row)) : memEq a b = true := by
 have hl : a.length = b.length := by simpa using congrArg List.length h
 simp only [memEq, hl, decide_true, Bool.true_and]
 refine List.all_eq_true.2 fun p hp => ?_
 obtain ⟨i, hi⟩ := List.mem_iff_getElem?.1 hp
 rw [List.getElem?_zip_eq_some] at hi
 have h1 : (a.map (·.row))[i]? = (b.map (·.row))[i]? := by rw [h]
 rw [List.getElem?_map, List.getElem?_map, hi.1, hi.2] at h1
 simp only [Option.map_some, Option.some.injEq] at h1
 simp [rowEq, h1, ordI_same]
theorem samemem_ok {b1 b2 : Bool} {a b : List Mem} (hl : a.length ≤ 1000000000) (hr : ∀ x ∈ a, x.row.length ≤ 1000000000) :
  Sp theEnv 30 [.slice (nk b1) (a.map encMem), .slice (nk b2) (b.map encMem)] (.bool (memEq a b)) := by
 refine Sp.fn rfl rfl rfl (by simp only [go_sem, Nat.reduceEqDiff, Nat.reduceAdd, Nat.reduceLeDiff, Nat.reduceMul, Nat.reduceSub, Int.reduceLT, Int.reduceLE, Int.reduceEq, Int.reduceAdd, Int.reduceNeg, reduceIte, reduceCtorEq, Nat.reduceLT]) (by simp only [go_sem, Nat.reduceEqDiff, Nat.reduceAdd, Nat.reduceLeDiff, Nat.reduceMul, Nat.reduceSub, Int.reduceLT, Int.reduceLE, Int.reduceEq, Int.reduceAdd, Int.reduceNeg, reduceIte, reduceCtorEq, Nat.reduceLT, implies_true]) fun S => ?_; simp only [a30, c30, go_sem, Nat.reduceEqDiff, Nat.reduceAdd, Nat.reduceLeDiff, Nat.reduceMul, Nat.reduceSub, Int.reduceLT, Int.reduceLE, Int.reduceEq, Int.reduceAdd, Int.reduceNeg, reduceIte, reduceCtorEq, Nat.reduceLT]
 rw [Run_if]
 simp only [go_sem, Nat.reduceEqDiff, Nat.reduceAdd, Nat.reduceLeDiff, Nat.reduceMul, Nat.reduceSub, Int.reduceLT, Int.reduceLE, Int.reduceEq, Int.reduceAdd, Int.reduceNeg, reduceIte, reduceCtorEq, Nat.reduceLT]
 by_cases hab : a.length = b.length
 ·simp only [hab, go_sem, Nat.reduceEqDiff, Nat.reduceAdd, Nat.reduceLeDiff, Nat.reduceMul, Nat.reduceSub, Int.reduceLT, Int.reduceLE, Int.reduceEq, Int.reduceAdd, Int.reduceNeg, reduceIte, reduceCtorEq, Nat.reduceLT, memEq, decide_true, Bool.true_and]
  have hz : (a.zip b).length = a.length := by rw [List.length_zip]; omega
  refine Run_all (a.zip b) rowEq (fun S' => S' = ⟨[], none⟩ :: S) [0, 1] (by omega) (by simp only [go_sem, Nat.reduceEqDiff, Nat.reduceAdd, Nat.reduceLeDiff, Nat.reduceMul, Nat.reduceSub, Int.reduceLT, Int.reduceLE, Int.reduceEq, Int.reduceAdd, Int.reduceNeg, reduceIte, reduceCtorEq, Nat.reduceLT]) (by simp only [go_sem, Nat.reduceEqDiff, Nat.reduceAdd, Nat.reduceLeDiff, Nat.reduceMul, Nat.reduceSub, Int.reduceLT, Int.reduceLE, Int.reduceEq, Int.reduceAdd, Int.reduceNeg, reduceIte, reduceCtorEq, Nat.reduceLT, hz, hab]) rfl rfl rfl (by simp only [go_sem, Nat.reduceEqDiff, Nat.reduceAdd, Nat.reduceLeDiff, Nat.reduceMul, Nat.reduceSub, Int.reduceLT, Int.reduceLE, Int.reduceEq, Int.reduceAdd, Int.reduceNeg, reduceIte, reduceCtorEq, Nat.reduceLT]) rfl ?_ ?_
  ·rintro k F _ q hq hqm rfl hi hkept hno
   simp only [go_sem, Nat.reduceEqDiff, Nat.reduceAdd, Nat.reduceLeDiff, Nat.reduceMul, Nat.reduceSub, Int.reduceLT, Int.reduceLE, Int.reduceEq, Int.reduceAdd, Int.reduceNeg, reduceIte, reduceCtorEq, Nat.reduceLT] at hkept
   obtain ⟨h1, h2⟩ := List.getElem?_zip_eq_some.1 hq
   have hl1 := hr q.1 (List.mem_of_getElem? h1)
   simp only [go_sem, Nat.reduceEqDiff, Nat.reduceAdd, Nat.reduceLeDiff, Nat.reduceMul, Nat.reduceSub, Int.reduceLT, Int.reduceLE, Int.reduceEq, Int.reduceAdd, Int.reduceNeg, reduceIte, reduceCtorEq, Nat.reduceLT, hkept, hi, iaO_map h1, iaO_map h2]
   by_cases hql : q.1.row.length = q.2.row.length
   ·have ho := order_ok (b1 := q.1.n) (b2 := q.2.n) (a := q.1.row) (b := q.2.row) hl1 (by omega)
    have hre : rowEq q = decide (ordI q.1.row q.2.row = 0) := by simp [rowEq, hql]
    rw [hre] at hno ⊢
    simp only [hql, go_sem, Nat.reduceEqDiff, Nat.reduceAdd, Nat.reduceLeDiff, Nat.reduceMul, Nat.reduceSub, Int.reduceLT, Int.reduceLE, Int.reduceEq, Int.reduceAdd, Int.reduceNeg, reduceIte, reduceCtorEq, Nat.reduceLT, ho.call, Run_if]
    grind
   ·have hql' : ¬ ((q.1.row.length : Int) = (q.2.row.length : Int)) := by omega
    have hre : rowEq q = false := by simp [rowEq, hql]
    rw [hre] at hno ⊢
    have h9 := hno rfl
    simp only [hql, decide_false, Bool.not_false, h9, go_sem, Nat.reduceEqDiff, Nat.reduceAdd, Nat.reduceLeDiff, Nat.reduceMul, Nat.reduceSub, Int.reduceLT, Int.reduceLE, Int.reduceEq, Int.reduceAdd, Int.reduceNeg, reduceIte, reduceCtorEq, Nat.reduceLT, Run_if]
  ·rintro F _ hall rfl hkept
   simp only [go_sem, Nat.reduceEqDiff, Nat.reduceAdd, Nat.reduceLeDiff, Nat.reduceMul, Nat.reduceSub, Int.reduceLT, Int.reduceLE, Int.reduceEq, Int.reduceAdd, Int.reduceNeg, reduceIte, reduceCtorEq, Nat.reduceLT] at hkept
   simp only [go_sem, Nat.reduceEqDiff, Nat.reduceAdd, Nat.reduceLeDiff, Nat.reduceMul, Nat.reduceSub, Int.reduceLT, Int.reduceLE, Int.reduceEq, Int.reduceAdd, Int.reduceNeg, reduceIte, reduceCtorEq, Nat.reduceLT, hall]
 ·have hab' : ¬ ((a.length : Int) = (b.length : Int)) := by omega
  simp [hab, hab', memEq, go_sem, Nat.reduceEqDiff, Nat.reduceAdd, Nat.reduceLeDiff, Nat.reduceMul, Nat.reduceSub, Int.reduceLT, Int.reduceLE, Int.reduceEq, Int.reduceAdd, Int.reduceNeg, reduceIte, reduceCtorEq, Nat.reduceLT]
end Wp
end AM
end Go.Proofs.YtimfbnojmdnlnaaGreat
end
section
namespace Go.Proofs.YtimfbnojmdnlnaaGreat
namespace AM
namespace Wp
theorem memV_eq (l : List (List Int)) : memV true l = .slice (nk false) ((l.map fun r => (⟨false, r⟩ : Mem)).map encMem) := by
 simp [memV, nk]
theorem freshFrom_small {s : Int} : ∀ {l : List Int} {a : Nat}, (∀ n ∈ l, n ≤ 4096) → ∀ r ∈ freshFrom s a l, r.length ≤ 4096
 | [], _, _, r, h => by simp [freshFrom] at h
 | n :: l, a, hn, r, h => by
  simp only [freshFrom, List.mem_cons] at h
  rcases h with rfl | h
  ·have := hn n (by simp)
   simp [freshRow]; omega
  ·exact freshFrom_small (fun m hm => hn m (List.mem_cons_of_mem _ hm)) r h
theorem fresh_mem {p : Prg} {ps : List Int} (he : askErr p ps = 0) (s : Int) : (freshFrom s 0 (cellsL p ps)).length ≤ 8 ∧ ∀ r ∈ freshFrom s 0 (cellsL p ps), r.length ≤ 4096 := by
 obtain ⟨hc, hl, hin, hsh, _⟩ := ask_in he
 have hag := cells_agree hc hsh
 have h8 : p.arrays.length ≤ 8 := (chk_head hc).2.1
 refine ⟨by rw [freshFrom_len]; simp [cellsL, shapesOf]; exact h8, freshFrom_small fun n hn => ?_⟩
 have : cellsL p ps = rcOf ps p.arrays := hag.1
 rw [this] at hn
 exact (hag.2 n hn).2
theorem freshlaw_ok {p : Prg} (hp : OkPrg p) (hw : wtL (encPrg p) ≤ 400000000) (b : Bool) (ps : List Int) (hpl : ps.length ≤ LIM) (s : Int) :
  Sp theEnv 7 [.agg (encPrg p), .slice (nk b) (ps.map encI), .int .i64 s] (.bool true) := by
 have hm := sm_prg hp (by omega)
 obtain ⟨v, hv, hR⟩ := rfresh_ok hp hm (b := b) hpl s
 have hF := fresh_ok hp (b := b) hpl s
 have hsame : ∃ (v1 v2 : V), v1 = memV (decide (askErr p ps = 0)) (freshFrom (modI s 1000003) 0 (cellsL p ps)) ∧ v2 = v ∧ (∀ n, low n v = true) ∧ strip v = v ∧ cp v = some v ∧ tame v = true ∧ Sp theEnv 30 [v1, v2] (.bool true) := by
  refine ⟨_, _, rfl, rfl, ?_⟩
  by_cases he : askErr p ps = 0
  ·have hsm := fresh_mem he (modI s 1000003)
   simp only [he, decide_true] at hv ⊢
   rw [memV_eq]
   have key := fun (b2 : Bool) => samemem_ok (b1 := false) (b2 := b2) (a := (freshFrom (modI s 1000003) 0 (cellsL p ps)).map fun r => (⟨false, r⟩ : Mem)) (b := (freshFrom (modI s 1000003) 0 (cellsL p ps)).map fun r => (⟨false, r⟩ : Mem)) (by simp; omega) (by
    intro x hx
    simp only [List.mem_map] at hx
    obtain ⟨r, hr, rfl⟩ := hx
    exact Nat.le_trans (hsm.2 r hr) (by decide))
   rw [memEq_rows rfl] at key
   rcases hv with rfl | ⟨rfl, _, hpa⟩
   ·refine ⟨fun n => low_memV, strip_memV, cp_memV, tame_memV, ?_⟩
    rw [memV_eq]
    exact key false
   ·refine ⟨fun n => rfl, rfl, rfl, rfl, ?_⟩
    have e0 : freshFrom (modI s 1000003) 0 (cellsL p ps) = [] := by
     have : cellsL p ps = [] := by simp [cellsL, shapesOf, hpa]
     rw [this]; rfl
    have := key true
    rw [e0] at this ⊢
    exact this
  ·simp only [he, decide_false] at hv ⊢
   rcases hv with rfl | ⟨_, h, _⟩
   ·have := samemem_ok (b1 := true) (b2 := true) (a := []) (b := []) (by simp) (by simp)
    exact ⟨fun n => rfl, rfl, rfl, rfl, this⟩
   ·exact h.elim
 obtain ⟨v1, v2, rfl, rfl, hl, hs, hcp, ht, hS⟩ := hsame
 refine Sp.fn rfl rfl rfl (by simp only [go_sem, Nat.reduceEqDiff, Nat.reduceAdd, Nat.reduceLeDiff, Nat.reduceMul, Nat.reduceSub, Int.reduceLT, Int.reduceLE, Int.reduceEq, Int.reduceAdd, Int.reduceNeg, reduceIte, reduceCtorEq, Nat.reduceLT]) (by simp only [go_sem, Nat.reduceEqDiff, Nat.reduceAdd, Nat.reduceLeDiff, Nat.reduceMul, Nat.reduceSub, Int.reduceLT, Int.reduceLE, Int.reduceEq, Int.reduceAdd, Int.reduceNeg, reduceIte, reduceCtorEq, Nat.reduceLT, implies_true]) fun S => ?_; simp only [a7, c7, go_sem, Nat.reduceEqDiff, Nat.reduceAdd, Nat.reduceLeDiff, Nat.reduceMul, Nat.reduceSub, Int.reduceLT, Int.reduceLE, Int.reduceEq, Int.reduceAdd, Int.reduceNeg, reduceIte, reduceCtorEq, Nat.reduceLT]
 rw [(few12_nil hp b ps hpl).call]
 simp only [go_sem, Nat.reduceEqDiff, Nat.reduceAdd, Nat.reduceLeDiff, Nat.reduceMul, Nat.reduceSub, Int.reduceLT, Int.reduceLE, Int.reduceEq, Int.reduceAdd, Int.reduceNeg, reduceIte, reduceCtorEq, Nat.reduceLT]
 rw [Run_if]
 simp only [go_sem, Nat.reduceEqDiff, Nat.reduceAdd, Nat.reduceLeDiff, Nat.reduceMul, Nat.reduceSub, Int.reduceLT, Int.reduceLE, Int.reduceEq, Int.reduceAdd, Int.reduceNeg, reduceIte, reduceCtorEq, Nat.reduceLT]
 split
 ·rw [awake12_c]; simp only [go_sem, Nat.reduceEqDiff, Nat.reduceAdd, Nat.reduceLeDiff, Nat.reduceMul, Nat.reduceSub, Int.reduceLT, Int.reduceLE, Int.reduceEq, Int.reduceAdd, Int.reduceNeg, reduceIte, reduceCtorEq, Nat.reduceLT]
 ·simp only [hF.call, hR.call, go_sem, Nat.reduceEqDiff, Nat.reduceAdd, Nat.reduceLeDiff, Nat.reduceMul, Nat.reduceSub, Int.reduceLT, Int.reduceLE, Int.reduceEq, Int.reduceAdd, Int.reduceNeg, reduceIte, reduceCtorEq, Nat.reduceLT, hl, hs, hcp, ht, hS.callG, hS.call]
  rw [awake12_c]; simp only [go_sem, Nat.reduceEqDiff, Nat.reduceAdd, Nat.reduceLeDiff, Nat.reduceMul, Nat.reduceSub, Int.reduceLT, Int.reduceLE, Int.reduceEq, Int.reduceAdd, Int.reduceNeg, reduceIte, reduceCtorEq, Nat.reduceLT]
end Wp
end AM
end Go.Proofs.YtimfbnojmdnlnaaGreat
end
