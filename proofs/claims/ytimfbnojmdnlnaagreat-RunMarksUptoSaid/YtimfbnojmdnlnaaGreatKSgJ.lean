/- The law RunMarks, on trees. -/
import Derived.Test.YtimfbnojmdnlnaaGreatKSgI
import Derived.Test.YtimfbnojmdnlnaaGreatKSfU
set_option linter.unusedVariables false
set_option linter.unusedSimpArgs false
set_option maxRecDepth 100000
namespace Go.Proofs.YtimfbnojmdnlnaaGreat
open Nat renaming reduceEqDiff → Ra, reduceAdd → Rb, reduceLeDiff → Rc, reduceMul → Rd, reduceSub → Re, reduceLT → Rk
open Int renaming reduceLT → Rf, reduceLE → Rg, reduceEq → Rh, reduceAdd → Ri, reduceNeg → Rj
namespace AM
namespace Wp
section
variable {E : Env} {F : Fr} {Q : Ex → Fr → St → Prop} {bs : List Blk} {ks : List KI}
theorem pre6 {cE : CE} {S : St} {p : Prg} {mv : V} {rest : List AOper} {r : Option Fr} (h4 : F 4 = .ptr 0 0 0) (h3 : F 3 = mv) (hm : cp mv = some mv) (hb : getBox S 0 0 = some (encPrg p))
  (k : freeL cE S rest (put (put (put (put (put (put (put F 28 (.ptr 0 0 0)) 29 (.slice (nk p.pn) (p.params.map encS))) 30 (.ptr 0 0 1)) 31 (.slice (nk p.an) (p.arrays.map encArr))) 32 (.ptr 0 0 2)) 33 (.slice (nk p.bn) (p.body.map encStm))) 34 mv) = r) :
  freeL cE S (⟨some 28, .fa 0 (.t 4), none⟩ :: ⟨some 29, .ld false 1 false (.t 28), none⟩ :: ⟨some 30, .fa 1 (.t 4), none⟩ :: ⟨some 31, .ld false 1 false (.t 30), none⟩ :: ⟨some 32, .fa 2 (.t 4), none⟩ :: ⟨some 33, .ld false 1 false (.t 32), none⟩ :: ⟨some 34, .mv false (.t 3), none⟩ :: rest) F = r := by
 have e0 : encPrg p = [.slice (nk p.pn) (p.params.map encS), .slice (nk p.an) (p.arrays.map encArr), .slice (nk p.bn) (p.body.map encStm)] := by simp only [encPrg, encStms_map]
 rw [e0] at hb
 refine freeL_go (fo_val rfl (v := .ptr 0 0 0) (by simp [valOp, evO, h4])) ?_
 refine freeL_go (fo_val rfl (v := .slice (nk p.pn) (p.params.map encS)) (by simp [valOp, evO, put, hb, cutL, ofCells, strip_nk])) ?_
 refine freeL_go (fo_val rfl (v := .ptr 0 0 1) (by simp [valOp, evO, put, h4])) ?_
 refine freeL_go (fo_val rfl (v := .slice (nk p.an) (p.arrays.map encArr)) (by simp [valOp, evO, put, hb, cutL, ofCells, strip_nk])) ?_
 refine freeL_go (fo_val rfl (v := .ptr 0 0 2) (by simp [valOp, evO, put, h4])) ?_
 refine freeL_go (fo_val rfl (v := .slice (nk p.bn) (p.body.map encStm)) (by simp [valOp, evO, put, hb, cutL, ofCells, strip_nk])) ?_
 refine freeL_go (fo_val rfl (v := mv) (by simp [valOp, evO, put, h3, hm])) ?_
 exact k
theorem fre6 {p : Prg} {bk : Bool} {ms : List Int} {n : Int} {xs : List (List V)} (h4 : F 4 = .ptr 0 0 0) (h3 : F 3 = .slice (nk bk) (ms.map encU8)) (h9 : F 9 = .ptr 0 1 0)
  (hown : ownFree [⟨[encPrg p, [.int .i64 0]], none⟩] = true) (heq : eqS [⟨[encPrg p, dead], none⟩] [⟨[encPrg p, dead], none⟩] = true) (hargs : eqR (p.body.map encStm) (p.body.map encStm) = true ∧ eqR (ms.map encU8) (ms.map encU8) = true)
  (hc : CallIs E (.fn 32) [.slice (nk p.bn) (p.body.map encStm), .slice (nk bk) (ms.map encU8), .ptr 0 1 0] [⟨[encPrg p, [.int .i64 0]], none⟩] (.ret (grown 53 xs)) [⟨[encPrg p, [.int .i64 n]], none⟩])
  (k : WkS E [⟨some 28, .fa 0 (.t 4), none⟩, ⟨some 29, .ld false 1 false (.t 28), none⟩, ⟨some 30, .fa 1 (.t 4), none⟩, ⟨some 31, .ld false 1 false (.t 30), none⟩, ⟨some 32, .fa 2 (.t 4), none⟩, ⟨some 33, .ld false 1 false (.t 32), none⟩, ⟨some 34, .mv false (.t 3), none⟩, ⟨some 35, .call 32 [(.t 33), (.t 34), (.t 9)], none⟩, ⟨some 36, .bld [.slice .nil [], .slice .nil [], .slice .nil []] [(0, 1, (.t 29)), (1, 1, (.t 31)), (2, 1, (.t 35))], none⟩, ⟨some 10, .al [.slice .nil [], .slice .nil [], .slice .nil []], none⟩] bs ks
   (put (put (put (put (put (put (put (put (put (put F 28 (.ptr 0 0 0)) 29 (.slice (nk p.pn) (p.params.map encS))) 30 (.ptr 0 0 1)) 31 (.slice (nk p.an) (p.arrays.map encArr))) 32 (.ptr 0 0 2)) 33 (.slice (nk p.bn) (p.body.map encStm))) 34 (.slice (nk bk) (ms.map encU8))) 35 (grown 53 xs)) 36 (.agg [.slice (nk p.pn) (p.params.map encS), .slice (nk p.an) (p.arrays.map encArr), .slice (nk xs.isEmpty) xs])) 10 (.fresh [.slice .nil [], .slice .nil [], .slice .nil []])) [⟨[encPrg p, [.int .i64 n]], none⟩] Q) :
  Wk E (.s (.fre [⟨some 28, .fa 0 (.t 4), none⟩, ⟨some 29, .ld false 1 false (.t 28), none⟩, ⟨some 30, .fa 1 (.t 4), none⟩, ⟨some 31, .ld false 1 false (.t 30), none⟩, ⟨some 32, .fa 2 (.t 4), none⟩, ⟨some 33, .ld false 1 false (.t 32), none⟩, ⟨some 34, .mv false (.t 3), none⟩, ⟨some 35, .call 32 [(.t 33), (.t 34), (.t 9)], none⟩, ⟨some 36, .bld [.slice .nil [], .slice .nil [], .slice .nil []] [(0, 1, (.t 29)), (1, 1, (.t 31)), (2, 1, (.t 35))], none⟩, ⟨some 10, .al [.slice .nil [], .slice .nil [], .slice .nil []], none⟩] :: bs)) ks F [⟨[encPrg p, [.int .i64 0]], none⟩] Q := by
 have e0 : encPrg p = [.slice (nk p.pn) (p.params.map encS), .slice (nk p.an) (p.arrays.map encArr), .slice (nk p.bn) (p.body.map encStm)] := by simp only [encPrg, encStms_map]
 have g0 : getBox [⟨[encPrg p, [.int .i64 0]], none⟩] 0 0 = some (encPrg p) := by rw [e0]; rfl
 have g1 : getBox (setBox [⟨[encPrg p, [.int .i64 0]], none⟩] 0 1 dead) 0 0 = some (encPrg p) := by rw [e0]; rfl
 have hcp : ∀ {K : Bool} {l : List (List V)}, cp (.slice (nk K) l) = some (.slice (nk K) l) := fun {K l} => by cases K <;> rfl
 have hA : ([(.t 33 : Opd), .t 34, .t 9].map fun x => strip (evO (put (put (put (put (put (put (put F 28 (.ptr 0 0 0)) 29 (.slice (nk p.pn) (p.params.map encS))) 30 (.ptr 0 0 1)) 31 (.slice (nk p.an) (p.arrays.map encArr))) 32 (.ptr 0 0 2)) 33 (.slice (nk p.bn) (p.body.map encStm))) 34 (.slice (nk bk) (ms.map encU8))) x)) = [.slice (nk p.bn) (p.body.map encStm), .slice (nk bk) (ms.map encU8), .ptr 0 1 0] := by
  simp [evO, put, h9, strip_nk]; rfl
 have hEq : eqL [V.slice (nk p.bn) (p.body.map encStm), .slice (nk bk) (ms.map encU8), .ptr 0 1 0] [V.slice (nk p.bn) (p.body.map encStm), .slice (nk bk) (ms.map encU8), .ptr 0 1 0] = true := by
  cases p.bn <;> cases bk <;> simp [eqL, eqV, nk, hargs.1, hargs.2]
 refine Wk_fre (S' := [⟨[encPrg p, [.int .i64 n]], none⟩]) (l := 0) (b := 1) rfl rfl (pre6 h4 h3 hcp g0 rfl) hA rfl hc rfl (by cases p.bn <;> cases bk <;> rfl) sx hown heq (pre6 h4 h3 hcp g1 (freeL_go (fo_call hA hEq (by cases p.bn <;> cases bk <;> rfl) (by cases p.bn <;> cases bk <;> rfl) sx heq ?_) (freeL_go (fo_val rfl ?_) (freeL_go fo_al rfl)))) k
 ·show ownFree [⟨[encPrg p, dead], none⟩] = true
  simp only [ownFree, List.all_cons, List.all_nil, Bool.and_true, Bool.and_eq_true] at hown ⊢
  exact ⟨hown.1, rfl⟩
 ·have hco : ∀ {b : Bool} {l : List (List V)}, cellsOf (.slice (nk b) l) = some [.slice (nk b) l] := fun {b l} => by cases b <;> rfl
  simp [valOp, fill, evO, put, strip_nk, strip_grown, hco, setAt]
end
theorem markslaw_ok {p : Prg} (hp : OkPrg p) (hw : wtL (encPrg p) ≤ 400000000) (b bm bk : Bool) (ps : List Int) (mem : List Mem) (ms : List Int) (hz : b = true → ps = []) (hpl : ps.length ≤ LIM) (hl : ps.length + mem.length + memLen mem ≤ 1000000000000) (hmz : ∀ m ∈ mem, m.n = true → m.row = [])
  (hms : ∀ m ∈ ms, 0 ≤ m ∧ m ≤ 255) (hml : ms.length ≤ 1000000000) : EvC theEnv 6 [.agg (encPrg p), .slice (nk b) (ps.map encI), .slice (nk bm) (mem.map encMem), .slice (nk bk) (ms.map encU8)] (.bool true) := by
 have fin : CallQ theEnv (.fn 6) [.agg (encPrg p), .slice (nk b) (ps.map encI), .slice (nk bm) (mem.map encMem), .slice (nk bk) (ms.map encU8)] [] (fun o S' => o = .ret (.bool true) ∧ S' = []) → EvC theEnv 6 [.agg (encPrg p), .slice (nk b) (ps.map encI), .slice (nk bm) (mem.map encMem), .slice (nk bk) (ms.map encU8)] (.bool true) := by
  rintro ⟨o, S', h1, rfl, rfl⟩
  exact h1
 refine fin ?_
 have hsm := sm_prg hp (by omega)
 have hchk := refcheck_ok hp hsm
 refine CallQ.fnZ rfl rfl rfl rfl ?_
 simp only [a6, c6, go_sem,Ra,Rb,Rc,Rd,Re,Rf,Rg,Rh,Ri,Rj,reduceIte,reduceCtorEq,Rk, List.length_nil]
 rw [(few12_ok hp b bm ps mem hl).call]
 simp only [go_sem,Ra,Rb,Rc,Rd,Re,Rf,Rg,Rh,Ri,Rj,reduceIte,reduceCtorEq,Rk, List.length_nil, hchk.callG]
 rw [Run_if]
 cases hfw : (few p 1000 && decide (ps.length + mem.length + memLen mem ≤ 10000)) with
 | false =>
  simp only [hfw, go_sem,Ra,Rb,Rc,Rd,Re,Rf,Rg,Rh,Ri,Rj,reduceIte,reduceCtorEq,Rk, List.length_nil]
  rw [awake12_c]; simp only [go_sem,Ra,Rb,Rc,Rd,Re,Rf,Rg,Rh,Ri,Rj,reduceIte,reduceCtorEq,Rk, List.length_nil]
  rw [FinZR_low sx]
  exact ⟨rfl, rfl⟩
 | true =>
  cases hrf : refPrg p with
  | false =>
   simp only [hfw, hrf, go_sem,Ra,Rb,Rc,Rd,Re,Rf,Rg,Rh,Ri,Rj,reduceIte,reduceCtorEq,Rk, List.length_nil]
   rw [awake12_c]; simp only [go_sem,Ra,Rb,Rc,Rd,Re,Rf,Rg,Rh,Ri,Rj,reduceIte,reduceCtorEq,Rk, List.length_nil]
   rw [FinZR_low sx]
   exact ⟨rfl, rfl⟩
  | true =>
   simp only [hfw, hrf, go_sem,Ra,Rb,Rc,Rd,Re,Rf,Rg,Rh,Ri,Rj,reduceIte,reduceCtorEq,Rk, List.length_nil]
   have hck : chkPrg p = true := by rw [prg_agree]; exact hrf
   have hwb : 0 + wtR (p.body.map encStm) ≤ 1000000000 := by
    simp only [encPrg, encStms_map, wtL, wt] at hw
    omega
   have hmk := marked_list (bm := bk) (lv := 0) (i := 1) hms hml (l := p.body) (fun x _ => marked_stm hms hml x) p.bn 0 [⟨[encPrg p, [.int .i64 0]], none⟩] hwb rfl
   refine fre6 sx sx sx (calm_own sx) (by have h1 := eqL_good _ (good_Prg p); have h2 : eqL dead dead = true := rfl; simp only [eqS, eqR, h1, h2]; rfl) ⟨eqR_good _ (goodR_map fun x _ => good_Stm x), eqR_good _ (goodR_map fun x _ => rfl)⟩ hmk ?_
   have hmd : OkMem mem := ⟨by simp at hfw; omega, fun m hm => ⟨by have := memLen_mem hm; simp at hfw; omega, hmz m hm⟩⟩
   obtain ⟨v, hv, hRv⟩ := run_ok hp (b := b) (bm := bm) (mem := mem) hz hpl hmd (fun st rows => err_body _ _ _ _ _)
   obtain ⟨w, hw2, hRw⟩ := run_ok (mkPrg_ok hms hp) (b := b) (bm := bm) (mem := mem) hz hpl hmd (fun st rows => err_body _ _ _ _ _)
   have eq : encPrg (mkPrg ms p) = [.slice (nk p.pn) (p.params.map encS), .slice (nk p.an) (p.arrays.map encArr), .slice (nk (mkStms ms p.body 0).1.isEmpty) ((mkStms ms p.body 0).1.map encStm)] := by simp only [encPrg, mkPrg, encStms_map]
   rw [eq] at hw2
   rcases sameRun hms hck hRv hRw with ⟨b1, b2, m1, m2, st, hrow, rfl, rfl, hbod⟩ | ⟨e, rfl, rfl⟩
   ·simp only [go_sem,Ra,Rb,Rc,Rd,Re,Rf,Rg,Rh,Ri,Rj,reduceIte,reduceCtorEq,Rk, List.length_nil, List.isEmpty_map, evc12_call hv sx (fun n => by simp only [go_sem,Ra,Rb,Rc,Rd,Re,Rf,Rg,Rh,Ri,Rj,reduceIte,reduceCtorEq,Rk]), rcutV_g, rcutV_0, raggC_some, evc12_call hw2 sx (fun n => by simp only [go_sem,Ra,Rb,Rc,Rd,Re,Rf,Rg,Rh,Ri,Rj,reduceIte,reduceCtorEq,Rk])]
    have hrl : ∀ (a : List Mem), a.map (·.row) = m1.map (·.row) → a.length = mem.length ∧ ∀ x ∈ a, x.row.length ≤ memLen mem := by
     intro a ha
     have h1 := len_body hbod
     rw [← ha, List.map_map, List.map_map] at h1
     refine ⟨by simpa using congrArg List.length h1, fun x hx => ?_⟩
     have h2 : x.row.length ∈ a.map (List.length ∘ (·.row)) := List.mem_map_of_mem (f := List.length ∘ (·.row)) hx
     rw [h1] at h2
     obtain ⟨y, hy, hxy⟩ := List.mem_map.1 h2
     have := memLen_mem hy
     simp only [Function.comp] at hxy
     omega
    obtain ⟨hl1, hr1⟩ := hrl m1 rfl
    simp at hfw
    have hsame := samemem_ok (b1 := b1) (b2 := b2) (a := m1) (b := m2) (by omega) (fun x hx => by have := hr1 x hx; omega)
    rw [memEq_rows hrow] at hsame
    simp only [hsame.call, hsame.callG, go_sem,Ra,Rb,Rc,Rd,Re,Rf,Rg,Rh,Ri,Rj,reduceIte,reduceCtorEq,Rk, List.length_nil, awake12_g, awake12_c]
    rw [FinZR_low sx]
    exact ⟨rfl, rfl⟩
   ·simp only [go_sem,Ra,Rb,Rc,Rd,Re,Rf,Rg,Rh,Ri,Rj,reduceIte,reduceCtorEq,Rk, List.length_nil, List.isEmpty_map, evc12_call hv sx (fun n => rfl), rcutV_g, rcutV_0, raggC_some, evc12_call hw2 sx (fun n => rfl)]
    have hsame := samemem_ok (b1 := true) (b2 := true) (a := []) (b := []) (by simp) (by simp)
    simp only [List.map_nil] at hsame
    simp only [nk, if_true, show memEq [] [] = true from rfl] at hsame
    simp only [hsame.call, hsame.callG, go_sem,Ra,Rb,Rc,Rd,Re,Rf,Rg,Rh,Ri,Rj,reduceIte,reduceCtorEq,Rk, List.length_nil, awake12_g, awake12_c]
    rw [FinZR_low sx]
    exact ⟨rfl, rfl⟩
end Wp
end AM
end Go.Proofs.YtimfbnojmdnlnaaGreat
