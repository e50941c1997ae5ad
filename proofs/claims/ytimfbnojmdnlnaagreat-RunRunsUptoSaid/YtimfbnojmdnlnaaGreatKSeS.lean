/- SameMemory; the example of the chapter in a call. -/
import Derived.Test.YtimfbnojmdnlnaaGreatKM28
import Derived.Test.YtimfbnojmdnlnaaGreatKWpF
import Derived.Test.YtimfbnojmdnlnaaGreatKScD
import Derived.Test.YtimfbnojmdnlnaaGreatKM2
set_option linter.all false
set_option maxRecDepth 100000
namespace Go.Proofs.YtimfbnojmdnlnaaGreat
namespace AM
theorem awake12_fuel (k : Nat) : callN theEnv (k + 300) (.fn 27) [] [] = some (.ret (.bool true),[]) := by kernel_rfl
theorem awake12_ev : EvC theEnv 27 [] (.bool true) := ⟨300,fun j hj => by
 obtain ⟨k,rfl⟩ : ∃ k,j = k + 300 := ⟨j - 300,by omega⟩
 exact awake12_fuel k⟩
namespace Wp
section
variable {E : Env} {d : Option Nat} {cn : Cn} {ks : List KI} {F : Fr} {S : St} {Q : Ex → Fr → St → Prop}
theorem evc12_q {f : Nat} {args : List V} {v : V} (h : EvC E f args v) : CallIs E (.fn f) args [] (.ret v) [] := h
theorem evc12_call {f : Nat} {args : List V} {v : V} (h : EvC E f args v) (ha : lowL 0 args = true) (hl : ∀ n,low n v = true) : Call E f args d cn ks F S Q = Wk E cn ks (putO F d v) S Q := by
 unfold Call
 cases cn with
 | s bs =>
  simp only [callK,ha,if_true]
  rw [(evc12_q h).q]
  simp [hl]
 | f all os bs =>
  simp only [callFK,ha,if_true]
  rw [(evc12_q h).q]
  simp [hl]
theorem evc12_callG {f : Nat} {args : List V} {v gv : V} {b : Bool} (h : EvC E f args v) (ha : lowL 0 args = true) (hl : ∀ n,low n v = true) : CallG E f args gv b d cn ks F S Q = (isDef gv = true ∧ Wk E cn ks (putO F d (gsel gv b v)) S Q) := by
 unfold CallG
 rw [evc12_call h ha hl,isDef_iff]
 by_cases hb : gv = .bool b
 ·subst hb; simp [gsel_self]
 ·simp [hb,gsel_other hb]
theorem awake12_c : Call theEnv 27 [] d cn ks F S Q = Wk theEnv cn ks (putO F d (.bool true)) S Q :=
 evc12_call awake12_ev rfl fun _ => rfl
theorem awake12_g {gv : V} {b : Bool} : CallG theEnv 27 [] gv b d cn ks F S Q = (isDef gv = true ∧ Wk theEnv cn ks (putO F d (gsel gv b (.bool true))) S Q) :=
 evc12_callG awake12_ev rfl fun _ => rfl
end
@[go_sem] theorem len_Mem (x : Mem) : (encMem x).length = 1 := _root_.id rfl
@[go_sem] theorem one_Mem (x : Mem) : cutV (encMem x) 0 1 false = some (.slice (nk x.n) (x.row.map encI)) := by
 simp only [encMem,go_sem,simprocAttr,strip_nk]
def rowEq (p : Mem × Mem) : Bool := decide (p.1.row.length = p.2.row.length) && decide (ordI p.1.row p.2.row = 0)
def memEq (a b : List Mem) : Bool := decide (a.length = b.length) && (a.zip b).all rowEq
theorem ordI_same : ∀ a : List Int,ordI a a = 0
 | [] => rfl
 | x :: a => by simp [ordI,ordI_same a]
theorem memEq_rows {a b : List Mem} (h : a.map (·.row) = b.map (·.row)) : memEq a b = true := by
 have hl : a.length = b.length := by simpa using congrArg List.length h
 simp only [memEq,hl,decide_true,Bool.true_and]
 refine List.all_eq_true.2 fun p hp => ?_
 obtain ⟨i,hi⟩ := List.mem_iff_getElem?.1 hp
 rw [List.getElem?_zip_eq_some] at hi
 have h1 : (a.map (·.row))[i]? = (b.map (·.row))[i]? := by rw [h]
 rw [List.getElem?_map,List.getElem?_map,hi.1,hi.2] at h1
 simp only [Option.map_some,Option.some.injEq] at h1
 simp [rowEq,h1,ordI_same]
theorem samemem_ok {b1 b2 : Bool} {a b : List Mem} (hl : a.length ≤ 1000000000) (hr : ∀ x ∈ a,x.row.length ≤ 1000000000) :
  Sp theEnv 30 [.slice (nk b1) (a.map encMem), .slice (nk b2) (b.map encMem)] (.bool (memEq a b)) := by
 refine Sp.fn rfl rfl rfl sx sy fun S => ?_; simp only [a30,c30,go_sem,simprocAttr]
 rw [Run_if]
 simp only [go_sem,simprocAttr]
 by_cases hab : a.length = b.length
 ·simp only [hab,go_sem,simprocAttr,memEq,decide_true,Bool.true_and]
  have hz : (a.zip b).length = a.length := by rw [List.length_zip]; omega
  refine Run_all (a.zip b) rowEq (fun S' => S' = ⟨[],none⟩ :: S) [0,1] (by omega) sx (by simp only [go_sem,simprocAttr,hz,hab]) rfl rfl rfl sx rfl ?_ ?_
  ·rintro k F _ q hq hqm rfl hi hkept hno
   simp only [go_sem,simprocAttr] at hkept
   obtain ⟨h1,h2⟩ := List.getElem?_zip_eq_some.1 hq
   have hl1 := hr q.1 (List.mem_of_getElem? h1)
   simp only [go_sem,simprocAttr,hkept,hi,iaO_map h1,iaO_map h2]
   by_cases hql : q.1.row.length = q.2.row.length
   ·have ho := order_ok (b1 := q.1.n) (b2 := q.2.n) (a := q.1.row) (b := q.2.row) hl1 (by omega)
    have hre : rowEq q = decide (ordI q.1.row q.2.row = 0) := by simp [rowEq,hql]
    rw [hre] at hno ⊢
    simp only [hql,go_sem,simprocAttr,ho.call,Run_if]
    grind
   ·have hql' : ¬ ((q.1.row.length : Int) = (q.2.row.length : Int)) := by omega
    have hre : rowEq q = false := by simp [rowEq,hql]
    rw [hre] at hno ⊢
    have h9 := hno rfl
    simp only [hql,decide_false,Bool.not_false,h9,go_sem,simprocAttr,Run_if]
  ·rintro F _ hall rfl hkept
   simp only [go_sem,simprocAttr] at hkept
   simp only [go_sem,simprocAttr,hall]
 ·have hab' : ¬ ((a.length : Int) = (b.length : Int)) := by omega
  simp [hab,hab',memEq,go_sem,simprocAttr]
end Wp
end AM
end Go.Proofs.YtimfbnojmdnlnaaGreat
