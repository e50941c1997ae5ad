/- The evaluator with fuel enough, op by op, by what is asked of its end. -/
import Derived.Test.YtimfbnojmdnlnaaGreatKEvA
set_option linter.unusedVariables false
set_option linter.unusedSimpArgs false
namespace Go.Proofs.YtimfbnojmdnlnaaGreat
namespace AM
section
variable {E : Env}
def EvQ (E : Env) (c : ACode) (F : Fr) (S : St) (Q : Ex → Fr → St → Prop) : Prop := ∃ r, Ev E c F S r ∧ Q r.1 r.2.1 r.2.2
def EvbQ (E : Env) (bs : List Blk) (F : Fr) (S : St) (Q : Ex → Fr → St → Prop) : Prop := ∃ r, Evb E bs F S r ∧ Q r.1 r.2.1 r.2.2
def EvfQ (E : Env) (all os : List AOper) (bs : List Blk) (F : Fr) (S : St) (Q : Ex → Fr → St → Prop) : Prop := ∃ F1, (∃ K, ∀ j, K ≤ j → freeL (callN E j) S os F = some F1) ∧ EvbQ E bs (settle all F1 S).1 (settle all F1 S).2 Q
variable {F F1 : Fr} {S S1 : St} {Q : Ex → Fr → St → Prop} {bs : List Blk} {all os : List AOper} {d : Option Nat} {v : V}
theorem EvQ.nop (h : Q .nrm F S) : EvQ E .nop F S Q := ⟨_, Ev.nop, h⟩
theorem EvQ.ret (h : Q .ret F S) : EvQ E .ret F S Q := ⟨_, Ev.ret, h⟩
theorem EvQ.exit {id : Nat} (h : Q (.exit id) F S) : EvQ E (.exit id) F S Q := ⟨_, Ev.exit, h⟩
theorem EvQ.seq {a b : ACode} (h : EvQ E a F S fun e F1 S1 => match e with | .nrm => EvQ E b F1 S1 Q | e => Q e F1 S1) : EvQ E (.seq a b) F S Q := by
 obtain ⟨⟨e, F1, S1⟩, h1, h2⟩ := h
 cases e with
 | nrm =>
  obtain ⟨r, h3, h4⟩ := h2
  exact ⟨r, h1.seq h3, h4⟩
 | _ => exact ⟨_, h1.seq_out (by simp), h2⟩
theorem EvQ.cond {c : Opd} {a b : ACode} (t : Bool) (hc : evO F c = .bool t) (h : EvQ E (if t = true then a else b) F S Q) : EvQ E (.cond c a b) F S Q := by
 obtain ⟨r, h1, h2⟩ := h
 exact ⟨r, Ev.cond t hc h1, h2⟩
theorem EvQ.blk {id : Nat} {a : ACode} (h : EvQ E a F S fun e F1 S1 => match e with | .exit j => if j = id then Q .nrm F1 S1 else Q (.exit j) F1 S1 | e => Q e F1 S1) : EvQ E (.blk id a) F S Q := by
 obtain ⟨⟨e, F1, S1⟩, h1, h2⟩ := h
 refine ⟨_, Ev.blk h1, ?_⟩
 cases e with
 | exit j =>
  simp only at h2 ⊢
  split at h2
  ·rename_i hj; rw [if_pos hj]; exact h2
  ·rename_i hj; rw [if_neg hj]; exact h2
 | _ => exact h2
theorem EvQ.reg (h : EvbQ E bs F S Q) : EvQ E (.reg bs) F S Q := by
 obtain ⟨r, h1, h2⟩ := h
 exact ⟨r, Ev.reg h1, h2⟩
theorem EvQ.loop {a : ACode} (J : Nat → Fr → St → Prop) (step : ∀ n F S, J n F S → EvQ E a F S fun e F1 S1 => match e with | .nrm => ∃ m, m < n ∧ J m F1 S1 | e => Q e F1 S1) : ∀ n F S, J n F S → EvQ E (.loop a) F S Q := by
 intro n
 induction n using Nat.strongRecOn with
 | _ n ih =>
  intro F S hJ
  obtain ⟨⟨e, F1, S1⟩, h1, h2⟩ := step n F S hJ
  cases e with
  | nrm =>
   obtain ⟨m, hm, hJ'⟩ := h2
   obtain ⟨r, h3, h4⟩ := ih m hm F1 S1 hJ'
   exact ⟨r, h1.loop h3, h4⟩
  | _ => exact ⟨_, h1.loop_out (by simp), h2⟩
theorem EvQ.mono {c : ACode} {Q' : Ex → Fr → St → Prop} (h : EvQ E c F S Q) (hq : ∀ e F S, Q e F S → Q' e F S) : EvQ E c F S Q' := by
 obtain ⟨r, h1, h2⟩ := h
 exact ⟨r, h1, hq _ _ _ h2⟩
theorem EvbQ.nil (h : Q .nrm F S) : EvbQ E [] F S Q := ⟨_, Evb.nil, h⟩
theorem EvbQ.op {o : AOper} (h : ∀ cE, seqOper E.meth cE o F S = some (.ok F1 S1)) (k : EvbQ E bs F1 S1 Q) : EvbQ E (.seq o :: bs) F S Q := by
 obtain ⟨r, h1, h2⟩ := k
 exact ⟨r, Evb.op h h1, h2⟩
theorem EvbQ.skip {o : AOper} (hg : wanted F o.gd = some false) (k : EvbQ E bs (putO F o.dst (.tup [])) S Q) : EvbQ E (.seq o :: bs) F S Q := EvbQ.op (fun cE => by simp only [seqOper, hg]) k
theorem EvbQ.call {f : Nat} {xs : List Opd} {gd : Option (Nat × Bool)} {args : List V} (hg : wanted F gd = some true) (ha : (xs.map fun x => strip (evO F x)) = args) (hl : lowL 0 args = true) (h : EvC E f args v) (hv : low 0 v = true)
  (k : EvbQ E bs (putO F d v) S Q) : EvbQ E (.seq ⟨d, .call f xs, gd⟩ :: bs) F S Q := by
 obtain ⟨r, h1, h2⟩ := k
 exact ⟨r, Evb.call hg ha hl h hv h1, h2⟩
theorem EvbQ.free (h : EvfQ E os os bs F S Q) : EvbQ E (.free os :: bs) F S Q := by
 obtain ⟨F1, h1, r, h2, h3⟩ := h
 exact ⟨r, Evb.free h1 h2, h3⟩
theorem EvfQ.nil (h : EvbQ E bs (settle all F S).1 (settle all F S).2 Q) : EvfQ E all [] bs F S Q := ⟨F, ⟨0, fun _ _ => rfl⟩, h⟩
theorem EvfQ.op {o : AOper} (h : ∀ cE, freeOper cE o F S = some F1) (k : EvfQ E all os bs F1 S Q) : EvfQ E all (o :: os) bs F S Q := by
 obtain ⟨F2, ⟨K, h1⟩, h2⟩ := k
 exact ⟨F2, ⟨K, fun j hj => by simp only [freeL, h, Option.bind_some, h1 j hj]⟩, h2⟩
end
end AM
end Go.Proofs.YtimfbnojmdnlnaaGreat
