/- Calls that are handed the caller's state; boxes of the own level, whatever its number. -/
import Derived.Test.YtimfbnojmdnlnaaGreatKEvB
set_option linter.unusedVariables false
set_option linter.unusedSimpArgs false
namespace Go.Proofs.YtimfbnojmdnlnaaGreat
namespace AM
section
variable {E : Env}
def EvS (E : Env) (f : Nat) (args : List V) (v : V) : Prop := ∀ S, ∃ K, ∀ j, K ≤ j → callN E j (.fn f) args S = some (.ret v, S)
variable {F F1 : Fr} {S S1 R : St} {Q : Ex → Fr → St → Prop} {bs : List Blk} {all os : List AOper} {v : V} {lp : Option Lp} {B : List (List V)}
theorem EvbQ.box {n d : Nat} {x : Opd} {cs : List V} (hc : cellsOf (strip (evO F x)) = some cs) (hn : cs.length = n) (k : EvbQ E bs (put F d (.ptr R.length B.length 0)) (⟨B ++ [cs], lp⟩ :: R) Q) : EvbQ E (.seq ⟨some d, .box n x, none⟩ :: bs) F (⟨B, lp⟩ :: R) Q :=
 EvbQ.op (fun cE => by simp [seqOper, wanted, seqOp, hc, hn, putO]) k
theorem EvbQ.al {d : Nat} {z : List V} (k : EvbQ E bs (put F d (.ptr R.length B.length 0)) (⟨B ++ [z], lp⟩ :: R) Q) : EvbQ E (.seq ⟨some d, .al z, none⟩ :: bs) F (⟨B, lp⟩ :: R) Q :=
 EvbQ.op (fun cE => by simp [seqOper, wanted, seqOp, putO]) k
theorem EvbQ.fa {o d l i p : Nat} {x : Opd} {gd : Option (Nat × Bool)} (hg : wanted F gd = some true) (hx : evO F x = .ptr l i p) (k : EvbQ E bs (put F d (.ptr l i (p + o))) S Q) : EvbQ E (.seq ⟨some d, .fa o x, gd⟩ :: bs) F S Q :=
 EvbQ.op (fun cE => by simp [seqOper, hg, seqOp, valOp, hx, putO]) k
theorem EvbQ.callv {f d : Nat} {x : Opd} {xs : List Opd} {gd : Option (Nat × Bool)} {args : List V} (hg : wanted F gd = some true) (hx : evO F x = .func (.func f) []) (ha : (xs.map (evO F)).map strip = args) (ht : tames args = true) (h : EvS E f args v)
  (k : EvbQ E bs (put F d v) (⟨B, none⟩ :: R) Q) : EvbQ E (.seq ⟨some d, .callv x xs, gd⟩ :: bs) F (⟨B, none⟩ :: R) Q := by
 obtain ⟨r, h1, h2⟩ := k
 obtain ⟨K, hK⟩ := h (⟨B, none⟩ :: R)
 refine ⟨r, Evb.seq ⟨K, fun j hj => ?_⟩ h1, h2⟩
 simp [seqOper, hg, seqOp, hx, List.append_nil, ← ha] at *
 refine ⟨ht, ?_⟩
 rw [hK j hj]
 rfl
end
end AM
end Go.Proofs.YtimfbnojmdnlnaaGreat
