/- Other marks: what stays as it was (plain). -/
import Derived.Test.YtimfbnojmdnlnaaGreatKM31
import Derived.Test.YtimfbnojmdnlnaaGreatKM46
set_option linter.unusedVariables false
set_option linter.unusedSimpArgs false
set_option maxRecDepth 100000
namespace Go.Proofs.YtimfbnojmdnlnaaGreat
namespace AM
namespace Wp
section
variable {ms : List Int}
theorem mkStms_mem : ∀ {l : List Stm} {n : Nat} {y : Stm}, y ∈ (mkStms ms l n).1 → ∃ x ∈ l, ∃ k, y = (mkStm ms x k).1
 | [], n, y, h => by simp [mkStms] at h
 | x :: l, n, y, h => by
  simp only [mkStms, List.mem_cons] at h
  rcases h with rfl | h
  ·exact ⟨x, by simp, n, rfl⟩
  ·obtain ⟨z, hz, k, hk⟩ := mkStms_mem h
   exact ⟨z, List.mem_cons_of_mem _ hz, k, hk⟩
theorem markV_in (hms : ∀ m ∈ ms, 0 ≤ m ∧ m ≤ 255) {m : Int} {n : Nat} : markV ms m n = m ∨ (0 ≤ markV ms m n ∧ markV ms m n ≤ 2) := by
 unfold markV
 split
 ·rename_i y hy
  have h := hms y (List.mem_of_getElem? hy)
  have h1 := Int.tmod_lt_of_pos y (show (0 : Int) < 3 by decide)
  have h2 := Int.tmod_nonneg 3 h.1
  right; omega
 ·exact .inl rfl
theorem mk_ok (hms : ∀ m ∈ ms, 0 ≤ m ∧ m ≤ 255) : ∀ x, OkStm x → ∀ n, OkStm (mkStm ms x n).1 := by
 refine Stm.ind fun x ihb ihe hx n => ?_
 have hb : ∀ k, ∀ y ∈ (mkStms ms x.body k).1, OkStm y := fun k y hy => by
  obtain ⟨z, hz, j, rfl⟩ := mkStms_mem hy
  exact ihb z hz (hx.body' z hz) j
 have he : ∀ k, ∀ y ∈ (mkStms ms x.els k).1, OkStm y := fun k y hy => by
  obtain ⟨z, hz, j, rfl⟩ := mkStms_mem hy
  exact ihe z hz (hx.els' z hz) j
 have hmk : inI (if x.kind = 1 then markV ms x.mark n else x.mark) := by
  split
  ·rcases markV_in (ms := ms) hms (m := x.mark) (n := n) with h | h
   ·rw [h]; exact hx.mark'
   ·unfold inI; omega
  ·exact hx.mark'
 cases x with
 | mk kind name low high step mark test target value bn body en els =>
  exact .mk _ hx.kind' hx.name' hx.low' hx.high' hx.step' hmk hx.test' hx.target' hx.value' (by show (mkStms ms body _).1.length ≤ LIM; rw [mk_len]; exact hx.bn') (hb _) (by show (mkStms ms els _).1.length ≤ LIM; rw [mk_len]; exact hx.en') (he _)
   (fun h => List.isEmpty_iff.1 h) (fun h => List.isEmpty_iff.1 h)
def mkPrg (ms : List Int) (p : Prg) : Prg := ⟨p.pn, p.params, p.an, p.arrays, (mkStms ms p.body 0).1.isEmpty, (mkStms ms p.body 0).1⟩
theorem mkPrg_ok (hms : ∀ m ∈ ms, 0 ≤ m ∧ m ≤ 255) {p : Prg} (hp : OkPrg p) : OkPrg (mkPrg ms p) :=
 ⟨hp.1, hp.2, hp.3, hp.4, hp.5, by show (mkStms ms p.body 0).1.length ≤ LIM; rw [mk_len]; exact hp.bl, fun y hy => by
  obtain ⟨z, hz, j, rfl⟩ := mkStms_mem (show y ∈ (mkStms ms p.body 0).1 from hy)
  exact mk_ok hms z (hp.bs z hz) j, hp.8, fun h => List.isEmpty_iff.1 h⟩
theorem body_mk {sh : List Shape} : ∀ {l : List Stm}, (∀ s ∈ l, ∀ n x st rows, stmV sh (mkStm ms s n).1 x st rows = stmV sh s x st rows) → ∀ n x st rows, bodyV sh (mkStms ms l n).1 x st rows = bodyV sh l x st rows
 | [], _, n, x, st, rows => by simp [mkStms]
 | s :: l, h, n, x, st, rows => by
  simp only [mkStms]
  rw [bodyV, bodyV, h s (by simp)]
  split
  ·rfl
  ·exact body_mk (fun t ht => h t (List.mem_cons_of_mem _ ht)) _ _ _ _
theorem stm_mk {sh : List Shape} : ∀ s n x st rows, stmV sh (mkStm ms s n).1 x st rows = stmV sh s x st rows := by
 refine Stm.ind fun s ihb ihe n x st rows => ?_
 have hb := body_mk ihb
 have he := body_mk ihe
 rw [stmV_eq, stmV_eq]
 cases s with
 | mk kind name low high step mark test target value bn body en els =>
  simp only [mkStm] at hb he ⊢
  simp only [hb, he]
  rfl
theorem body_mk' {sh : List Shape} (l : List Stm) (n : Nat) (x : List Int) (st : Int) (rows : List (List Int)) : bodyV sh (mkStms ms l n).1 x st rows = bodyV sh l x st rows := body_mk (fun s _ => stm_mk s) n x st rows
theorem node_mk {p q : Prg} (hq : q.arrays = p.arrays) {n : Int} : ∀ x m, chkNode q n x m = chkNode p n x m := by
 have hv : ∀ r, vCell q n r = vCell p n r := fun r => by simp only [vCell, hq]
 have hl : ∀ x, leafOk q n x = leafOk p n x := fun x => by simp only [leafOk, hv]
 refine Exp.ind fun x ih m => ?_
 cases hh : headOk x (m + 1) with
 | false => rw [chkNode_bad hh, chkNode_bad hh]
 | true =>
  by_cases hop : x.op = 0 ∨ x.op = 1 ∨ x.op = 2
  ·rw [chkNode_leaf hh hop, chkNode_leaf hh hop, hl]
  ·have h0 : x.op ≠ 0 := fun h => hop (.inl h)
   have h1 : x.op ≠ 1 := fun h => hop (.inr (.inl h))
   have h2 : x.op ≠ 2 := fun h => hop (.inr (.inr h))
   by_cases ha : ∃ a b, x.args = [a, b]
   ·obtain ⟨a, b, ha⟩ := ha
    have ia := ih a (by rw [ha]; simp)
    have ib := ih b (by rw [ha]; simp)
    rw [chkNode_two hh h0 h1 h2 ha, chkNode_two hh h0 h1 h2 ha, ia, ib]
   ·rw [chkNode_not hh h0 h1 h2 fun a b h => ha ⟨a, b, h⟩, chkNode_not hh h0 h1 h2 fun a b h => ha ⟨a, b, h⟩]
theorem list_mk {p q : Prg} {names : List ByteArray} : ∀ {l : List Stm}, (∀ s ∈ l, ∀ names st n, (chkStm p s names st).1 = true → chkStm q (mkStm ms s n).1 names st = chkStm p s names st) → ∀ st n, (chkList p l names st).1 = true → chkList q (mkStms ms l n).1 names st = chkList p l names st
 | [], _, st, n, _ => by simp only [mkStms]; rw [chkList, chkList]
 | s :: l, h, st, n, hc => by
  simp only [mkStms]
  rw [chkList_cons] at hc ⊢
  rw [chkList_cons]
  split at hc
  ·rename_i h1
   rw [if_pos h1, if_pos h1]
   split at hc
   ·rename_i h2
    rw [h s (by simp) names _ n h2, if_pos h2, if_pos h2]
    exact list_mk (fun t ht => h t (List.mem_cons_of_mem _ ht)) _ _ hc
   ·cases hc
  ·cases hc
theorem bod_mk {p q : Prg} (hq : q.params = p.params) {l : List Stm} {names : List ByteArray} (h : ∀ s ∈ l, ∀ names st n, (chkStm p s names st).1 = true → chkStm q (mkStm ms s n).1 names st = chkStm p s names st) {st : Int} {n : Nat} (hc : (chkBody p l names st).1 = true) : chkBody q (mkStms ms l n).1 names st = chkBody p l names st := by
 have hd : deep q (mkStms ms l n).1 names = deep p l names := by simp only [deep, mk_len, hq]
 unfold chkBody at hc ⊢
 rw [hd]
 split at hc
 ·rename_i h1
  rw [if_pos h1, if_pos h1]
  exact list_mk h st n hc
 ·cases hc
theorem chk_mk (hms : ∀ m ∈ ms, 0 ≤ m ∧ m ≤ 255) {p q : Prg} (hq : q.params = p.params) (hqa : q.arrays = p.arrays) : ∀ s names st n, (chkStm p s names st).1 = true → chkStm q (mkStm ms s n).1 names st = chkStm p s names st := by
 refine Stm.ind fun s ihb ihe names st n hc => ?_
 have hB := fun names st n => bod_mk (n := n) (names := names) (st := st) hq ihb
 have hE := fun names st n => bod_mk (n := n) (names := names) (st := st) hq ihe
 cases s with
 | mk kind name low high step mark test target value bn body en els =>
  simp only [mkStm] at hB hE ⊢
  have k1 : ∀ (m' : Int) (b' e' : List Stm) (bn' en' : Bool), (m' = mark ∨ (0 ≤ m' ∧ m' ≤ 2)) → e'.length = els.length → cFor p names ⟨kind, name, low, high, step, mark, test, target, value, bn, body, en, els⟩ = true → cFor q names ⟨kind, name, low, high, step, m', test, target, value, bn', b', en', e'⟩ = true := by
   intro m' b' e' bn' en' hm he hf
   simp only [cFor, arrNew, hqa, Bool.and_eq_true, decide_eq_true_eq, Bool.or_eq_true, he] at hf ⊢
   rcases hm with h | h
   ·rw [h]; exact hf
   ·obtain ⟨⟨⟨⟨⟨a1, a2⟩, a3⟩, ⟨⟨a4, a5⟩, a6⟩, a7⟩, a8⟩, a9⟩ := hf
    exact ⟨⟨⟨⟨⟨a1, a2⟩, a3⟩, ⟨⟨a4, a5⟩, h.1⟩, h.2⟩, a8⟩, a9⟩
  have k3 : ∀ (b' e' : List Stm) (bn' en' : Bool), b'.length = body.length → e'.length = els.length → cAsg q names ⟨kind, name, low, high, step, mark, test, target, value, bn', b', en', e'⟩ = cAsg p names ⟨kind, name, low, high, step, mark, test, target, value, bn, body, en, els⟩ := by
   intro b' e' bn' en' hb he
   simp only [cAsg, zLoop, hb, he, node_mk hqa, vCell, hqa]
  by_cases h1 : kind = 1
  ·simp only [h1, if_true] at k1 hc ⊢
   rw [chkStm_for rfl] at hc ⊢
   rw [chkStm_for rfl]
   simp only at hc ⊢
   split at hc
   ·rename_i hf
    rw [if_pos (k1 _ _ _ _ _ (markV_in hms) mk_len hf), if_pos hf]
    exact hB _ _ _ hc
   ·cases hc
  ·simp only [h1, if_false]
   by_cases h2 : kind = 2
   ·simp only [h2] at hc ⊢
    rw [chkStm_if rfl] at hc ⊢
    rw [chkStm_if rfl]
    simp only at hc ⊢
    split at hc
    ·rename_i hf
     have hf2 : ∀ (b' e' : List Stm) (bn' en' : Bool), cIf names ⟨2, name, low, high, step, mark, test, target, value, bn', b', en', e'⟩ = true := fun _ _ _ _ => hf
     rw [if_pos (hf2 _ _ _ _), if_pos hf]
     split at hc
     ·rename_i hb
      rw [hB _ _ _ hb, if_pos hb, if_pos hb]
      exact hE _ _ _ hc
     ·cases hc
    ·cases hc
   ·by_cases h3 : kind = 3
    ·simp only [h3] at hc k3 ⊢
     rw [chkStm_asg rfl, chkStm_asg rfl, k3 _ _ _ _ mk_len mk_len]
    ·rw [chkStm_bad h1 h2 h3] at hc; cases hc
theorem prg_mk (hms : ∀ m ∈ ms, 0 ≤ m ∧ m ≤ 255) {p : Prg} (hc : chkPrg p = true) : chkPrg (mkPrg ms p) = true := by
 unfold chkPrg at hc ⊢
 simp only [Bool.and_eq_true] at hc ⊢
 refine ⟨hc.1, ?_⟩
 have := bod_mk (ms := ms) (p := p) (q := mkPrg ms p) (n := 0) (names := p.params) (st := 0) (l := p.body) rfl (fun s _ => chk_mk (p := p) (q := mkPrg ms p) hms rfl rfl s) hc.2
 show (chkBody (mkPrg ms p) (mkStms ms p.body 0).1 p.params 0).1 = true
 rw [this]; exact hc.2
theorem ask_mk (hms : ∀ m ∈ ms, 0 ≤ m ∧ m ≤ 255) {p : Prg} (hc : chkPrg p = true) (ps : List Int) : askErr (mkPrg ms p) ps = askErr p ps := by
 unfold askErr
 rw [if_pos hc, if_pos (prg_mk hms hc)]
 rfl
theorem sameRun (hms : ∀ m ∈ ms, 0 ≤ m ∧ m ≤ 255) {p : Prg} (hc : chkPrg p = true) {ps : List Int} {mem : List Mem} {v w : V} (hv : RunV p ps mem v) (hw : RunV (mkPrg ms p) ps mem w) :
  (∃ (b c : Bool) (a d : List Mem) (st : Int), a.map (·.row) = d.map (·.row) ∧ v = .tup [.slice (nk b) (a.map encMem), .int .i64 st, .int .i64 0] ∧ w = .tup [.slice (nk c) (d.map encMem), .int .i64 st, .int .i64 0] ∧ bodyV (shapesOf ps p.arrays) p.body ps 0 (mem.map (·.row)) = .ok st (a.map (·.row))) ∨ ∃ e, v = .tup [.slice .nil [], .int .i64 0, .int .i64 e] ∧ w = .tup [.slice .nil [], .int .i64 0, .int .i64 e] := by
 unfold RunV at hv hw
 rw [ask_mk hms hc] at hw
 have hbod : bodyV (shapesOf ps (mkPrg ms p).arrays) (mkPrg ms p).body ps 0 (mem.map (·.row)) = bodyV (shapesOf ps p.arrays) p.body ps 0 (mem.map (·.row)) := body_mk' p.body 0 _ _ _
 rw [hbod] at hw
 rw [show (mkPrg ms p).arrays = p.arrays from rfl] at hw
 split at hv
 ·rename_i h1
  rw [if_pos h1] at hw
  split at hv
  ·rename_i h2
   rw [if_pos h2] at hw
   split at hv
   ·rename_i st rows hb
    rw [hb] at hw
    obtain ⟨b, a, ha, rfl⟩ := hv
    obtain ⟨c, d, hd, rfl⟩ := hw
    exact .inl ⟨b, c, a, d, st, by rw [ha, hd], rfl, rfl, by rw [hb, ha]⟩
   ·rename_i e hb
    rw [hb] at hw
    subst hv; subst hw
    exact .inr ⟨_, rfl, rfl⟩
  ·rename_i h2
   rw [if_neg h2] at hw
   subst hv; subst hw
   exact .inr ⟨_, rfl, rfl⟩
 ·rename_i h1
  rw [if_neg h1] at hw
  subst hv; subst hw
  exact .inr ⟨_, rfl, rfl⟩
end
end Wp
end AM
end Go.Proofs.YtimfbnojmdnlnaaGreat
