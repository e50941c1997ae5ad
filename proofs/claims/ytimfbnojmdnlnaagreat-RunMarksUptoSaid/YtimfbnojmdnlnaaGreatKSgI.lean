/- The guard of the Run laws, with a memory; a block with one call that turns a box. -/
import Derived.Test.YtimfbnojmdnlnaaGreatKSgH
import Derived.Test.YtimfbnojmdnlnaaGreatKSeI
import Derived.Test.YtimfbnojmdnlnaaGreatKSbMb
set_option linter.unusedVariables false
set_option linter.unusedSimpArgs false
set_option maxRecDepth 100000
namespace Go.Proofs.YtimfbnojmdnlnaaGreat
open Nat renaming reduceEqDiff → Ra, reduceAdd → Rb, reduceLeDiff → Rc, reduceMul → Rd, reduceSub → Re, reduceLT → Rk
open Int renaming reduceLT → Rf, reduceLE → Rg, reduceEq → Rh, reduceAdd → Ri, reduceNeg → Rj
namespace AM
namespace Wp
def memLen : List Mem → Nat
 | [] => 0
 | m :: l => m.row.length + memLen l
theorem memLen_snoc {x : Mem} : ∀ {l : List Mem}, memLen (l ++ [x]) = memLen l + x.row.length
 | [] => by simp [memLen]
 | y :: l => by simp only [List.cons_append, memLen, memLen_snoc (l := l)]; omega
theorem memLen_take {l : List Mem} {k : Nat} : memLen (l.take k) ≤ memLen l := by
 induction l generalizing k with
 | nil => simp
 | cons y l ih =>
  cases k with
  | zero => simp [memLen]
  | succ k => simp only [List.take_succ_cons, memLen]; have := ih (k := k); omega
theorem memLen_mem {l : List Mem} {x : Mem} (h : x ∈ l) : x.row.length ≤ memLen l := by
 induction l with
 | nil => cases h
 | cons y l ih =>
  simp only [memLen]
  rcases List.mem_cons.1 h with rfl | h
  ·omega
  ·have := ih h; omega
theorem few12_ok {p : Prg} (hp : OkPrg p) (b bm : Bool) (ps : List Int) (mem : List Mem) (hl : ps.length + mem.length + memLen mem ≤ 1000000000000) : Sp theEnv 26 [.agg (encPrg p), .slice (nk b) (ps.map encI), .slice (nk bm) (mem.map encMem)] (.bool (few p 1000 && decide ((ps.length + mem.length + memLen mem : Nat) ≤ 10000))) := by
 refine Sp.fn rfl rfl rfl sx (by simp only [go_sem,Ra,Rb,Rc,Rd,Re,Rf,Rg,Rh,Ri,Rj,reduceIte,reduceCtorEq,Rk, implies_true]) fun S => ?_; simp only [a26, c26, go_sem,Ra,Rb,Rc,Rd,Re,Rf,Rg,Rh,Ri,Rj,reduceIte,reduceCtorEq,Rk]
 refine Run_range mem.length [3, 15] [7] (fun k vs S' => vs = [.int .i64 ((ps.length + mem.length + memLen (mem.take k) : Nat) : Int)] ∧ ∃ B, S' = ⟨encPrg p :: B, none⟩ :: S) (Nat.le_trans (show mem.length ≤ 1000000000000 by omega) (by decide)) sx sx rfl rfl rfl rfl sx ⟨by simp only [go_sem,Ra,Rb,Rc,Rd,Re,Rf,Rg,Rh,Ri,Rj,reduceIte,reduceCtorEq,Rk, List.take_zero, memLen]; rw [wrap64 (by omega) (by omega)]; omega, _, rfl⟩ ?_ ?_
 ·rintro k F _ hk ⟨hv, B, rfl⟩ hi hkept
  simp only [go_sem,Ra,Rb,Rc,Rd,Re,Rf,Rg,Rh,Ri,Rj,reduceIte,reduceCtorEq,Rk] at hkept hv
  obtain ⟨x, hx⟩ : ∃ y, mem[k]? = some y := ⟨mem[k], List.getElem?_eq_getElem hk⟩
  have h1 : memLen (mem.take (k + 1)) ≤ memLen mem := memLen_take
  rw [take_snoc' hx, memLen_snoc] at h1
  have hw : IntKind.i64.wrap (((ps.length + mem.length + memLen (mem.take k) : Nat) : Int) + (x.row.length : Int)) = ((ps.length + mem.length + (memLen (mem.take k) + x.row.length) : Nat) : Int) := by
   rw [wrap64 (by omega) (by omega)]; omega
  rw [take_snoc' hx, memLen_snoc]
  simp only [go_sem,Ra,Rb,Rc,Rd,Re,Rf,Rg,Rh,Ri,Rj,reduceIte,reduceCtorEq,Rk, hkept, hi, hv, iaO_map hx, one_Mem, hw]
 ·rintro F _ ⟨hv, B, rfl⟩ hkept
  simp only [go_sem,Ra,Rb,Rc,Rd,Re,Rf,Rg,Rh,Ri,Rj,reduceIte,reduceCtorEq,Rk] at hkept hv
  rw [List.take_length] at hv
  have hd : decide (((ps.length + mem.length + memLen mem : Nat) : Int) ≤ 10000) = decide ((ps.length + mem.length + memLen mem : Nat) ≤ 10000) := by
   congr 1; exact propext (by omega)
  simp only [go_sem,Ra,Rb,Rc,Rd,Re,Rf,Rg,Rh,Ri,Rj,reduceIte,reduceCtorEq,Rk, hkept, hv]
  rw [(few_ok hp 1000).call]
  simp only [go_sem,Ra,Rb,Rc,Rd,Re,Rf,Rg,Rh,Ri,Rj,reduceIte,reduceCtorEq,Rk, hv, hd]
section
variable {E : Env} {F F1 F3 : Fr} {S S' : St} {Q : Ex → Fr → St → Prop} {os pre post : List AOper} {bs : List Blk} {d : Option Nat}
theorem EvbQ.fre {f : Nat} {xs : List Opd} {A : List V} {v : V} {l b : Nat} (ht : (os.takeWhile fun o => !isCall o) = pre) (hd : (os.dropWhile fun o => !isCall o) = ⟨d, .call f xs, none⟩ :: post) (h1 : freeL (fun _ _ _ => none) S pre F = some F1) (hA : (xs.map fun x => strip (evO F1 x)) = A)
  (hp : firstPtr A = some (l, b)) (hc : CallIs E (.fn f) A S (.ret v) S') (h2 : post.all (fun o => !isCall o) = true) (h3 : tames A = true) (h4 : low 0 v = true) (h5 : ownFree S = true) (h6 : eqS (setBox S l b dead) (setBox S' l b dead) = true)
  (h7 : freeL (cEv f A v) (setBox S l b dead) os F = some F3) (k : EvbQ E bs (settle os F3 S').1 (settle os F3 S').2 Q) : EvbQ E (.fre os :: bs) F S Q := by
 obtain ⟨K, hK⟩ := hc
 obtain ⟨r, ⟨K2, h8⟩, h9⟩ := k
 refine ⟨r, ⟨max K K2, fun j hj => ?_⟩, h9⟩
 have hf : freeC (callN E j) os F S = some (F3, S') := by
  unfold freeC
  rw [hd, ht]
  simp only [h1, Option.bind_some, hA, hp, hK j (by omega), h2, h3, h4, h5, h6, h7, and_self, if_true, Option.map_some]
 simp only [blks, hf]
 exact h8 j (by omega)
theorem Wk_fre {ks : List KI} {f : Nat} {xs : List Opd} {A : List V} {v : V} {l b : Nat} (ht : (os.takeWhile fun o => !isCall o) = pre) (hd : (os.dropWhile fun o => !isCall o) = ⟨d, .call f xs, none⟩ :: post) (h1 : freeL (fun _ _ _ => none) S pre F = some F1) (hA : (xs.map fun x => strip (evO F1 x)) = A)
  (hp : firstPtr A = some (l, b)) (hc : CallIs E (.fn f) A S (.ret v) S') (h2 : post.all (fun o => !isCall o) = true) (h3 : tames A = true) (h4 : low 0 v = true) (h5 : ownFree S = true) (h6 : eqS (setBox S l b dead) (setBox S' l b dead) = true)
  (h7 : freeL (cEv f A v) (setBox S l b dead) os F = some F3) (k : WkS E os bs ks F3 S' Q) : Wk E (.s (.fre os :: bs)) ks F S Q :=
 EvbQ.fre ht hd h1 hA hp hc h2 h3 h4 h5 h6 h7 (Wb_ok k)
theorem freeL_go {cE : CE} {o : AOper} {os : List AOper} {F2 : Fr} {r : Option Fr} (h : freeOper cE o F S = some F2) (k : freeL cE S os F2 = r) : freeL cE S (o :: os) F = r := by
 simp only [freeL, h, Option.bind_some, k]
theorem fo_val {cE : CE} {op : AOp} {d : Nat} {v : V} (hn : (match op with | .mv true _ => false | .al _ => false | .ld true _ _ _ => false | .app .. => false | .st .. => false | .call .. => false | _ => true) = true) (h : valOp cE F S op = some (.ret v)) : freeOper cE ⟨some d, op, none⟩ F S = some (put F d v) := by
 cases op with
 | mv k x =>
  cases k with
  | true => cases hn
  | false => simp [freeOper, freeEff, wanted, h, outs, puts]
 | ld k n g x =>
  cases k with
  | true => cases hn
  | false => simp [freeOper, freeEff, wanted, h, outs, puts]
 | al z => cases hn
 | app e n b x y => cases hn
 | st n x y => cases hn
 | call f xs => cases hn
 | _ => simp [freeOper, freeEff, wanted, h, outs, puts]
theorem fo_al {cE : CE} {d : Nat} {z : List V} : freeOper cE ⟨some d, .al z, none⟩ F S = some (put F d (.fresh z)) := rfl
theorem fo_call {f d : Nat} {A : List V} {v : V} {xs : List Opd} (hA : (xs.map fun x => strip (evO F x)) = A) (he : eqL A A = true) (hl : lowL 0 A = false) (ht : tames A = true) (hv : low 0 v = true) (hS : eqS S S = true) (ho : ownFree S = true) : freeOper (cEv f A v) ⟨some d, .call f xs, none⟩ F S = some (put F d v) := by
 subst hA
 simp [freeOper, freeEff, wanted, hl, ht, cEv, he, hv, hS, ho, outs, puts]
end
end Wp
end AM
end Go.Proofs.YtimfbnojmdnlnaaGreat
