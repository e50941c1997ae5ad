/- The evaluator with fuel enough: rules. -/
import Derived.Test.YtimfbnojmdnlnaaGreatKAmA
set_option linter.unusedVariables false
set_option linter.unusedSimpArgs false
namespace Go.Proofs.YtimfbnojmdnlnaaGreat
namespace AM
section
variable {E : Env}
def EvC (E : Env) (f : Nat) (args : List V) (v : V) : Prop := ∃ K, ∀ j, K ≤ j → callN E j (.fn f) args [] = some (.ret v, [])
def Ev (E : Env) (c : ACode) (F : Fr) (S : St) (r : Ex × Fr × St) : Prop := ∃ K, ∀ j k, K ≤ j → K ≤ k → codeN E.meth (callN E j) k c F S = some r
def Evb (E : Env) (bs : List Blk) (F : Fr) (S : St) (r : Ex × Fr × St) : Prop := ∃ K, ∀ j, K ≤ j → blks E.meth (callN E j) bs F S = some r
theorem Ev.nop {F : Fr} {S : St} : Ev E .nop F S (.nrm, F, S) := ⟨1, fun j k _ hk => by obtain ⟨k, rfl⟩ : ∃ m, k = m + 1 := ⟨k - 1, by omega⟩; rfl⟩
theorem Ev.ret {F : Fr} {S : St} : Ev E .ret F S (.ret, F, S) := ⟨1, fun j k _ hk => by obtain ⟨k, rfl⟩ : ∃ m, k = m + 1 := ⟨k - 1, by omega⟩; rfl⟩
theorem Ev.exit {id : Nat} {F : Fr} {S : St} : Ev E (.exit id) F S (.exit id, F, S) := ⟨1, fun j k _ hk => by obtain ⟨k, rfl⟩ : ∃ m, k = m + 1 := ⟨k - 1, by omega⟩; rfl⟩
theorem Ev.seq {a b : ACode} {F F1 : Fr} {S S1 : St} {r : Ex × Fr × St} (h : Ev E a F S (.nrm, F1, S1)) (k : Ev E b F1 S1 r) : Ev E (.seq a b) F S r := by
 obtain ⟨K1, h1⟩ := h
 obtain ⟨K2, h2⟩ := k
 refine ⟨max K1 K2 + 1, fun j k hj hk => ?_⟩
 obtain ⟨k, rfl⟩ : ∃ m, k = m + 1 := ⟨k - 1, by omega⟩
 simp only [codeN, h1 j k (by omega) (by omega), h2 j k (by omega) (by omega)]
theorem Ev.seq_out {a b : ACode} {F F1 : Fr} {S S1 : St} {e : Ex} (h : Ev E a F S (e, F1, S1)) (he : e ≠ .nrm) : Ev E (.seq a b) F S (e, F1, S1) := by
 obtain ⟨K1, h1⟩ := h
 refine ⟨K1 + 1, fun j k hj hk => ?_⟩
 obtain ⟨k, rfl⟩ : ∃ m, k = m + 1 := ⟨k - 1, by omega⟩
 simp only [codeN, h1 j k (by omega) (by omega)]
 cases e <;> first | rfl | exact absurd rfl he
theorem Ev.cond {c : Opd} {a b : ACode} {F : Fr} {S : St} {r : Ex × Fr × St} (t : Bool) (hc : evO F c = .bool t) (h : Ev E (if t = true then a else b) F S r) : Ev E (.cond c a b) F S r := by
 obtain ⟨K1, h1⟩ := h
 refine ⟨K1 + 1, fun j k hj hk => ?_⟩
 obtain ⟨k, rfl⟩ : ∃ m, k = m + 1 := ⟨k - 1, by omega⟩
 have := h1 j k (by omega) (by omega)
 cases t <;> simp only [codeN, hc] <;> simpa using this
theorem Ev.blk {id : Nat} {a : ACode} {F F1 : Fr} {S S1 : St} {e : Ex} (h : Ev E a F S (e, F1, S1)) : Ev E (.blk id a) F S (match e with | .exit j => if j = id then .nrm else .exit j | e => e, F1, S1) := by
 obtain ⟨K1, h1⟩ := h
 refine ⟨K1 + 1, fun j k hj hk => ?_⟩
 obtain ⟨k, rfl⟩ : ∃ m, k = m + 1 := ⟨k - 1, by omega⟩
 have := h1 j k (by omega) (by omega)
 cases e with
 | exit i =>
  simp only [codeN, this]
  split <;> rfl
 | _ => simp only [codeN, this]
theorem Ev.loop {a : ACode} {F F1 : Fr} {S S1 : St} {r : Ex × Fr × St} (h : Ev E a F S (.nrm, F1, S1)) (k : Ev E (.loop a) F1 S1 r) : Ev E (.loop a) F S r := by
 obtain ⟨K1, h1⟩ := h
 obtain ⟨K2, h2⟩ := k
 refine ⟨max K1 K2 + 1, fun j k hj hk => ?_⟩
 obtain ⟨k, rfl⟩ : ∃ m, k = m + 1 := ⟨k - 1, by omega⟩
 simp only [codeN, h1 j k (by omega) (by omega), h2 j k (by omega) (by omega)]
theorem Ev.loop_out {a : ACode} {F F1 : Fr} {S S1 : St} {e : Ex} (h : Ev E a F S (e, F1, S1)) (he : e ≠ .nrm) : Ev E (.loop a) F S (e, F1, S1) := by
 obtain ⟨K1, h1⟩ := h
 refine ⟨K1 + 1, fun j k hj hk => ?_⟩
 obtain ⟨k, rfl⟩ : ∃ m, k = m + 1 := ⟨k - 1, by omega⟩
 simp only [codeN, h1 j k (by omega) (by omega)]
 cases e <;> first | rfl | exact absurd rfl he
theorem Ev.reg {bs : List Blk} {F : Fr} {S : St} {r : Ex × Fr × St} (h : Evb E bs F S r) : Ev E (.reg bs) F S r := by
 obtain ⟨K1, h1⟩ := h
 refine ⟨K1 + 1, fun j k hj hk => ?_⟩
 obtain ⟨k, rfl⟩ : ∃ m, k = m + 1 := ⟨k - 1, by omega⟩
 simp only [codeN, h1 j (by omega)]
theorem Evb.nil {F : Fr} {S : St} : Evb E [] F S (.nrm, F, S) := ⟨0, fun _ _ => rfl⟩
theorem Evb.seq {o : AOper} {bs : List Blk} {F F1 : Fr} {S S1 : St} {r : Ex × Fr × St} (h : ∃ K, ∀ j, K ≤ j → seqOper E.meth (callN E j) o F S = some (.ok F1 S1)) (k : Evb E bs F1 S1 r) : Evb E (.seq o :: bs) F S r := by
 obtain ⟨K1, h1⟩ := h
 obtain ⟨K2, h2⟩ := k
 exact ⟨max K1 K2, fun j hj => by simp only [blks, h1 j (by omega), h2 j (by omega)]⟩
theorem Evb.op {o : AOper} {bs : List Blk} {F F1 : Fr} {S S1 : St} {r : Ex × Fr × St} (h : ∀ cE, seqOper E.meth cE o F S = some (.ok F1 S1)) (k : Evb E bs F1 S1 r) : Evb E (.seq o :: bs) F S r := Evb.seq ⟨0, fun _ _ => h _⟩ k
theorem Evb.free {os : List AOper} {bs : List Blk} {F F1 : Fr} {S : St} {r : Ex × Fr × St} (h : ∃ K, ∀ j, K ≤ j → freeL (callN E j) S os F = some F1) (k : Evb E bs (settle os F1 S).1 (settle os F1 S).2 r) : Evb E (.free os :: bs) F S r := by
 obtain ⟨K1, h1⟩ := h
 obtain ⟨K2, h2⟩ := k
 exact ⟨max K1 K2, fun j hj => by simp only [blks, h1 j (by omega), h2 j (by omega)]⟩
theorem Evb.call {f : Nat} {xs : List Opd} {d : Option Nat} {gd : Option (Nat × Bool)} {bs : List Blk} {F : Fr} {S : St} {r : Ex × Fr × St} {args : List V} {v : V} (hg : wanted F gd = some true) (ha : (xs.map fun x => strip (evO F x)) = args) (hl : lowL 0 args = true) (h : EvC E f args v) (hv : low 0 v = true)
  (k : Evb E bs (putO F d v) S r) : Evb E (.seq ⟨d, .call f xs, gd⟩ :: bs) F S r := by
 obtain ⟨K1, h1⟩ := h
 refine Evb.seq ⟨K1, fun j hj => ?_⟩ k
 simp only [seqOper, hg, seqOp, ha, hl, if_true, h1 j hj, hv]
theorem Evb.skip {o : AOper} {bs : List Blk} {F : Fr} {S : St} {r : Ex × Fr × St} (hg : wanted F o.gd = some false) (k : Evb E bs (putO F o.dst (.tup [])) S r) : Evb E (.seq o :: bs) F S r := Evb.op (fun cE => by simp only [seqOper, hg]) k
theorem EvC.fn {f : Nat} {af : AFunc} {args : List V} {v : V} {e : Ex} {F : Fr} {T : Lev} (hx : E.ext f = none) (hf : E.fn f = some af) (hn : args.length = af.np) (h : Ev E af.body (args0 args) [⟨[], none⟩] (e, F, [T])) (he : e = .ret ∨ e = .nrm) (hr : results F [T] af.res = some v) (hl : low 0 v = true) : EvC E f args v := by
 obtain ⟨K, h1⟩ := h
 refine ⟨K + 1, fun j hj => ?_⟩
 obtain ⟨j, rfl⟩ : ∃ m, j = m + 1 := ⟨j - 1, by omega⟩
 simp only [callN, callBody, hx, hf, hn, if_true, h1 j j (by omega) (by omega)]
 rcases he with rfl | rfl <;> simp [leave, hr, hl]
end
end AM
end Go.Proofs.YtimfbnojmdnlnaaGreat
