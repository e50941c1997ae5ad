/- Calls that are handed the caller's state; boxes of the own level, whatever its number. -/
import Derived.Test.YtimfbnojmdnlnaaKEvB
set_option linter.unusedVariables false
set_option linter.unusedSimpArgs false
namespace Go.Proofs.Ytimfbnojmdnlnaa
namespace AM

section
variable {E : Env}

/-- With fuel enough the call hands v back and leaves the caller's boxes as they were. -/
def EvS (E : Env) (f : Nat) (args : List V) (v : V) : Prop := ∀ S, ∃ K, ∀ j, K ≤ j → callN E j (.fn f) args S = some (.ret v, S)
theorem EvS.toC {f : Nat} {args : List V} {v : V} (h : EvS E f args v) : EvC E f args v := h []

variable {F F1 : Fr} {S S1 R : St} {Q : Ex → Fr → St → Prop} {bs : List Blk} {all os : List AOper} {v : V} {lp : Option Lp} {B : List (List V)}

theorem EvS.fnQ {f : Nat} {af : AFunc} {args : List V} (hx : E.ext f = none) (hf : E.fn f = some af) (hn : args.length = af.np)
    (h : ∀ S, EvQ E af.body (args0 args) (⟨[], none⟩ :: S) fun e F T => (e = .ret ∨ e = .nrm) ∧ ∃ L, T = L :: S ∧ results F (L :: S) af.res = some v ∧ ∀ n, low n v = true) : EvS E f args v := by
  intro S
  obtain ⟨⟨e, F, T⟩, ⟨K, h1⟩, he, L, hT, hr, hl⟩ := h S
  simp only at h1 he hT hr
  subst hT
  refine ⟨K + 1, fun j hj => ?_⟩
  obtain ⟨j, rfl⟩ : ∃ m, j = m + 1 := ⟨j - 1, by omega⟩
  simp only [callN, callBody, hx, hf, hn, if_true, h1 j j (by omega) (by omega)]
  rcases he with rfl | rfl <;> simp [leave, hr, hl]

theorem EvbQ.box {n d : Nat} {x : Opd} {cs : List V} (hc : cellsOf (strip (evO F x)) = some cs) (hn : cs.length = n) (k : EvbQ E bs (put F d (.ptr R.length B.length 0)) (⟨B ++ [cs], lp⟩ :: R) Q) : EvbQ E (.seq ⟨some d, .box n x, none⟩ :: bs) F (⟨B, lp⟩ :: R) Q :=
  EvbQ.op (fun cE => by simp [seqOper, wanted, seqOp, hc, hn, putO]) k
theorem EvbQ.al {d : Nat} {z : List V} (k : EvbQ E bs (put F d (.ptr R.length B.length 0)) (⟨B ++ [z], lp⟩ :: R) Q) : EvbQ E (.seq ⟨some d, .al z, none⟩ :: bs) F (⟨B, lp⟩ :: R) Q :=
  EvbQ.op (fun cE => by simp [seqOper, wanted, seqOp, putO]) k
theorem EvbQ.fa {o d l i p : Nat} {x : Opd} {gd : Option (Nat × Bool)} (hg : wanted F gd = some true) (hx : evO F x = .ptr l i p) (k : EvbQ E bs (put F d (.ptr l i (p + o))) S Q) : EvbQ E (.seq ⟨some d, .fa o x, gd⟩ :: bs) F S Q :=
  EvbQ.op (fun cE => by simp [seqOper, hg, seqOp, valOp, hx, putO]) k
theorem getBox_own {i : Nat} : getBox (⟨B, lp⟩ :: R) R.length i = dz B[i]? := by simp [getBox]
theorem valOp_ldb {cE : CE} {n i o : Nat} {g : Bool} {x : Opd} {cs c : List V} (hx : evO F x = .ptr R.length i o) (hb : dz B[i]? = some cs) (hc : cutL cs o n = some c) (hv : ofCells g (c.map strip) = some v) : valOp cE F (⟨B, lp⟩ :: R) (.ld false n g x) = some (.ret v) := by
  simp [valOp, hx, getBox_own, hb, hc, hv]
theorem EvbQ.ldb {n i o d : Nat} {g : Bool} {x : Opd} {gd : Option (Nat × Bool)} {cs c : List V} (hg : wanted F gd = some true) (hx : evO F x = .ptr R.length i o) (hb : dz B[i]? = some cs) (hc : cutL cs o n = some c) (hv : ofCells g (c.map strip) = some v)
    (k : EvbQ E bs (put F d v) (⟨B, lp⟩ :: R) Q) : EvbQ E (.seq ⟨some d, .ld false n g x, gd⟩ :: bs) F (⟨B, lp⟩ :: R) Q :=
  EvbQ.op (fun cE => by simp [seqOper, hg, seqOp, valOp_ldb hx hb hc hv, putO]) k
theorem EvfQ.ldb {n i o d : Nat} {g : Bool} {x : Opd} {gd : Option (Nat × Bool)} {cs c : List V} (hg : wanted F gd = some true) (hx : evO F x = .ptr R.length i o) (hb : dz B[i]? = some cs) (hc : cutL cs o n = some c) (hv : ofCells g (c.map strip) = some v)
    (k : EvfQ E all os bs (put F d v) (⟨B, lp⟩ :: R) Q) : EvfQ E all (⟨some d, .ld false n g x, gd⟩ :: os) bs F (⟨B, lp⟩ :: R) Q :=
  EvfQ.op (fun cE => by simp [freeOper, freeEff, hg, valOp_ldb hx hb hc hv, outs, puts]) k
theorem EvbQ.stb {n i o : Nat} {x y : Opd} {cs vs : List V} (hx : evO F x = .ptr R.length i o) (hb : dz B[i]? = some cs) (hc : cellsOf (evO F y) = some vs) (hn : vs.length = n) (ho : o + n ≤ cs.length) (hl : lowL (R.length + 1) vs = true)
    (k : EvbQ E bs (unown F y) (⟨B.set i (setAt cs o vs), lp⟩ :: R) Q) : EvbQ E (.seq ⟨none, .st n x y, none⟩ :: bs) F (⟨B, lp⟩ :: R) Q :=
  EvbQ.op (fun cE => by simp [seqOper, wanted, seqOp, hx, getBox_own, hb, hc, hn, ho, hl, putO, setBox]) k
theorem EvbQ.callv {f d : Nat} {x : Opd} {xs : List Opd} {gd : Option (Nat × Bool)} {args : List V} (hg : wanted F gd = some true) (hx : evO F x = .func (.func f) []) (ha : (xs.map (evO F)).map strip = args) (ht : tames args = true) (h : EvS E f args v)
    (k : EvbQ E bs (put F d v) (⟨B, none⟩ :: R) Q) : EvbQ E (.seq ⟨some d, .callv x xs, gd⟩ :: bs) F (⟨B, none⟩ :: R) Q := by
  obtain ⟨r, h1, h2⟩ := k
  obtain ⟨K, hK⟩ := h (⟨B, none⟩ :: R)
  refine ⟨r, Evb.seq ⟨K, fun j hj => ?_⟩ h1, h2⟩
  simp [seqOper, hg, seqOp, hx, List.append_nil, ← ha] at *
  refine ⟨ht, ?_⟩
  rw [hK j hj]
  rfl
end
end AM
end Go.Proofs.Ytimfbnojmdnlnaa
