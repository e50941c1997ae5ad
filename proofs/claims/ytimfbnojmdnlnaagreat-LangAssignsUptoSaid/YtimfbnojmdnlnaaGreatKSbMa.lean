/- The example of the chapter, in a call. -/
import Derived.Test.YtimfbnojmdnlnaaGreatKWpC
import Derived.Test.YtimfbnojmdnlnaaGreatKSaB
set_option linter.unusedVariables false
set_option linter.unusedSimpArgs false
set_option maxRecDepth 100000
namespace Go.Proofs.YtimfbnojmdnlnaaGreat
namespace AM
namespace Wp
section
variable {E : Env} {d : Option Nat} {cn : Cn} {ks : List KI} {F : Fr} {S : St} {Q : Ex → Fr → St → Prop}
theorem evc_q {f : Nat} {args : List V} {v : V} (h : EvC E f args v) : CallIs E (.fn f) args [] (.ret v) [] := h
theorem evc_call {f : Nat} {args : List V} {v : V} (h : EvC E f args v) (ha : lowL 0 args = true) (hl : ∀ n, low n v = true) : Call E f args d cn ks F S Q = Wk E cn ks (putO F d v) S Q := by
 unfold Call
 cases cn with
 | s bs =>
  simp only [callK, ha, if_true]
  rw [(evc_q h).q]
  simp [hl]
 | f all os bs =>
  simp only [ha]
  rw [(evc_q h).q]
  simp [hl]
end
theorem awake_c {d : Option Nat} {cn : Cn} {ks : List KI} {F : Fr} {S : St} {Q : Ex → Fr → St → Prop} : Call theEnv 12 [] d cn ks F S Q = Wk theEnv cn ks (putO F d (.bool true)) S Q :=
 evc_call awake_ev rfl fun _ => rfl
end Wp
end AM
end Go.Proofs.YtimfbnojmdnlnaaGreat
