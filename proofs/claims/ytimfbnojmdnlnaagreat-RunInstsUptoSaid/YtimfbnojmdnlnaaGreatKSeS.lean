/- SameMemory; the example of the chapter in a call. -/
import Derived.Test.YtimfbnojmdnlnaaGreatKM28
import Derived.Test.YtimfbnojmdnlnaaGreatKWpF
import Derived.Test.YtimfbnojmdnlnaaGreatKScD
import Derived.Test.YtimfbnojmdnlnaaGreatKM2
set_option linter.all false
set_option maxRecDepth 100000
namespace Go.Proofs.YtimfbnojmdnlnaaGreat
namespace AM
theorem awake12_fuel (k : Nat) : callN theEnv (k + 300) (.fn 27) [] [] = some (.ret (.bool true),[]) := by kernel_rfl
theorem awake12_ev : EvC theEnv 27 [] (.bool true) := ⟨300,fun j hj => by
 obtain ⟨k,rfl⟩ : ∃ k,j = k + 300 := ⟨j - 300,by omega⟩
 exact awake12_fuel k⟩
namespace Wp
section
variable {E : Env} {d : Option Nat} {cn : Cn} {ks : List KI} {F : Fr} {S : St} {Q : Ex → Fr → St → Prop}
theorem evc12_q {f : Nat} {args : List V} {v : V} (h : EvC E f args v) : CallIs E (.fn f) args [] (.ret v) [] := h
theorem evc12_call {f : Nat} {args : List V} {v : V} (h : EvC E f args v) (ha : lowL 0 args = true) (hl : ∀ n,low n v = true) : Call E f args d cn ks F S Q = Wk E cn ks (putO F d v) S Q := by
 unfold Call
 cases cn with
 | s bs =>
  simp only [callK,ha,if_true]
  rw [(evc12_q h).q]
  simp [hl]
 | f all os bs =>
  simp only [callFK,ha,if_true]
  rw [(evc12_q h).q]
  simp [hl]
theorem awake12_c : Call theEnv 27 [] d cn ks F S Q = Wk theEnv cn ks (putO F d (.bool true)) S Q :=
 evc12_call awake12_ev rfl fun _ => rfl
end
def rowEq (p : Mem × Mem) : Bool := decide (p.1.row.length = p.2.row.length) && decide (ordI p.1.row p.2.row = 0)
def memEq (a b : List Mem) : Bool := decide (a.length = b.length) && (a.zip b).all rowEq
theorem ordI_same : ∀ a : List Int,ordI a a = 0
 | [] => rfl
 | x :: a => by simp [ordI,ordI_same a]
end Wp
end AM
end Go.Proofs.YtimfbnojmdnlnaaGreat
