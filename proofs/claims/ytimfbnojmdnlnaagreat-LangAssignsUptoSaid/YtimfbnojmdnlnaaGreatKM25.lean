/- Copies in new memory; Copies of bounds and statements; what an expression reads; Copies of statements; Copy of a statement; What an expression reads. -/
import Derived.Test.YtimfbnojmdnlnaaGreatKM20
import Derived.Test.YtimfbnojmdnlnaaGreatKM22
import Derived.Test.YtimfbnojmdnlnaaGreatKM23
import Derived.Test.YtimfbnojmdnlnaaGreatKM24
set_option linter.unusedVariables false
set_option linter.unusedSimpArgs false
set_option maxRecDepth 100000
section
namespace Go.Proofs.YtimfbnojmdnlnaaGreat
namespace AM
namespace Wp
def cloneI (b : Bool) (xs : List (List V)) : V := if b then .slice .nil [] else .slice (.own 3) xs
@[go_sem] theorem tame_cloneI {b : Bool} {xs : List (List V)} : tame (cloneI b xs) = true := by cases b <;> rfl
theorem strip_cloneI {b : Bool} {xs : List (List V)} (h : b = true → xs = []) : strip (cloneI b xs) = .slice (nk b) xs := by
 cases b with
 | true => rw [h rfl]; rfl
 | false => rfl
theorem clone_int (b : Bool) (l : List Int) (hl : l.length ≤ 1000000000) : Sp theEnv 84 [.slice (nk b) (l.map encI)] (cloneI b (l.map encI)) := by
 refine Sp.fn rfl rfl rfl (by simp only [go_sem, Nat.reduceEqDiff, Nat.reduceAdd, Nat.reduceLeDiff, Nat.reduceMul, Nat.reduceSub, Int.reduceLT, Int.reduceLE, Int.reduceEq, Int.reduceAdd, Int.reduceNeg, reduceIte, reduceCtorEq, Nat.reduceLT]) (by cases b <;> simp only [cloneI, go_sem, Nat.reduceEqDiff, Nat.reduceAdd, Nat.reduceLeDiff, Nat.reduceMul, Nat.reduceSub, Int.reduceLT, Int.reduceLE, Int.reduceEq, Int.reduceAdd, Int.reduceNeg, reduceIte, reduceCtorEq, Nat.reduceLT, implies_true]) fun S => ?_
 simp only [a84, c84, go_sem, Nat.reduceEqDiff, Nat.reduceAdd, Nat.reduceLeDiff, Nat.reduceMul, Nat.reduceSub, Int.reduceLT, Int.reduceLE, Int.reduceEq, Int.reduceAdd, Int.reduceNeg, reduceIte, reduceCtorEq, Nat.reduceLT]
 cases b with
 | true => simp only [go_sem, Nat.reduceEqDiff, Nat.reduceAdd, Nat.reduceLeDiff, Nat.reduceMul, Nat.reduceSub, Int.reduceLT, Int.reduceLE, Int.reduceEq, Int.reduceAdd, Int.reduceNeg, reduceIte, reduceCtorEq, Nat.reduceLT, cloneI]
 | false => simp only [go_sem, Nat.reduceEqDiff, Nat.reduceAdd, Nat.reduceLeDiff, Nat.reduceMul, Nat.reduceSub, Int.reduceLT, Int.reduceLE, Int.reduceEq, Int.reduceAdd, Int.reduceNeg, reduceIte, reduceCtorEq, Nat.reduceLT, appO_own (e := 3) (b := 8) (k := .shut) (xs := []) (lens_I l) (by simp; omega) (by simp; omega), cloneI]
theorem copy_lin {x : Lin} (h : OkLin x) (hs : x.c.length ≤ 1000000000) : Sp theEnv 93 [.agg (encLin x)] (.agg (encLin x)) := by
 refine Sp.fn rfl rfl rfl (by simp only [go_sem, Nat.reduceEqDiff, Nat.reduceAdd, Nat.reduceLeDiff, Nat.reduceMul, Nat.reduceSub, Int.reduceLT, Int.reduceLE, Int.reduceEq, Int.reduceAdd, Int.reduceNeg, reduceIte, reduceCtorEq, Nat.reduceLT]) (by simp only [go_sem, Nat.reduceEqDiff, Nat.reduceAdd, Nat.reduceLeDiff, Nat.reduceMul, Nat.reduceSub, Int.reduceLT, Int.reduceLE, Int.reduceEq, Int.reduceAdd, Int.reduceNeg, reduceIte, reduceCtorEq, Nat.reduceLT, implies_true]) fun S => ?_; simp only [a93, c93, go_sem, Nat.reduceEqDiff, Nat.reduceAdd, Nat.reduceLeDiff, Nat.reduceMul, Nat.reduceSub, Int.reduceLT, Int.reduceLE, Int.reduceEq, Int.reduceAdd, Int.reduceNeg, reduceIte, reduceCtorEq, Nat.reduceLT]
 have hz : x.n = true → x.c.map encI = [] := fun hn => by rw [h.z hn]; rfl
 simp only [(clone_int x.n x.c hs).call, go_sem, Nat.reduceEqDiff, Nat.reduceAdd, Nat.reduceLeDiff, Nat.reduceMul, Nat.reduceSub, Int.reduceLT, Int.reduceLE, Int.reduceEq, Int.reduceAdd, Int.reduceNeg, reduceIte, reduceCtorEq, Nat.reduceLT, strip_cloneI hz]
 show FinR (cutV (encLin x) 0 2 true) S _
 simp only [go_sem, Nat.reduceEqDiff, Nat.reduceAdd, Nat.reduceLeDiff, Nat.reduceMul, Nat.reduceSub, Int.reduceLT, Int.reduceLE, Int.reduceEq, Int.reduceAdd, Int.reduceNeg, reduceIte, reduceCtorEq, Nat.reduceLT]
def copyRef (r : Ref) : Ref := ⟨r.a, r.subs.isEmpty, r.subs⟩
theorem copy_ref {x : Ref} (h : OkRef x) (hs : x.subs.length ≤ 1000000000) (hl : ∀ y ∈ x.subs, y.c.length ≤ 1000000000) : Sp theEnv 87 [.agg (encRef x)] (.agg (encRef (copyRef x))) := by
 refine Sp.fn rfl rfl rfl (by simp only [go_sem, Nat.reduceEqDiff, Nat.reduceAdd, Nat.reduceLeDiff, Nat.reduceMul, Nat.reduceSub, Int.reduceLT, Int.reduceLE, Int.reduceEq, Int.reduceAdd, Int.reduceNeg, reduceIte, reduceCtorEq, Nat.reduceLT]) (by simp only [go_sem, Nat.reduceEqDiff, Nat.reduceAdd, Nat.reduceLeDiff, Nat.reduceMul, Nat.reduceSub, Int.reduceLT, Int.reduceLE, Int.reduceEq, Int.reduceAdd, Int.reduceNeg, reduceIte, reduceCtorEq, Nat.reduceLT, implies_true]) fun S => ?_; simp only [a87, c87, go_sem, Nat.reduceEqDiff, Nat.reduceAdd, Nat.reduceLeDiff, Nat.reduceMul, Nat.reduceSub, Int.reduceLT, Int.reduceLE, Int.reduceEq, Int.reduceAdd, Int.reduceNeg, reduceIte, reduceCtorEq, Nat.reduceLT]
 refine Run_range x.subs.length [2, 3, 10] [] (fun k _ S' => ∃ B, S' = ⟨encRef x :: [.int .i64 0, .slice .nil []] :: [.int .i64 x.a, grown 48 ((x.subs.take k).map encLin)] :: B, none⟩ :: S) h.l (by simp only [go_sem, Nat.reduceEqDiff, Nat.reduceAdd, Nat.reduceLeDiff, Nat.reduceMul, Nat.reduceSub, Int.reduceLT, Int.reduceLE, Int.reduceEq, Int.reduceAdd, Int.reduceNeg, reduceIte, reduceCtorEq, Nat.reduceLT]) (by simp only [go_sem, Nat.reduceEqDiff, Nat.reduceAdd, Nat.reduceLeDiff, Nat.reduceMul, Nat.reduceSub, Int.reduceLT, Int.reduceLE, Int.reduceEq, Int.reduceAdd, Int.reduceNeg, reduceIte, reduceCtorEq, Nat.reduceLT]) rfl rfl rfl rfl (by simp only [go_sem, Nat.reduceEqDiff, Nat.reduceAdd, Nat.reduceLeDiff, Nat.reduceMul, Nat.reduceSub, Int.reduceLT, Int.reduceLE, Int.reduceEq, Int.reduceAdd, Int.reduceNeg, reduceIte, reduceCtorEq, Nat.reduceLT]) ⟨_, rfl⟩ ?_ ?_
 ·rintro k F _ hk ⟨B, rfl⟩ hi hkept
  simp only [go_sem, Nat.reduceEqDiff, Nat.reduceAdd, Nat.reduceLeDiff, Nat.reduceMul, Nat.reduceSub, Int.reduceLT, Int.reduceLE, Int.reduceEq, Int.reduceAdd, Int.reduceNeg, reduceIte, reduceCtorEq, Nat.reduceLT] at hkept
  obtain ⟨y, hy⟩ : ∃ y, x.subs[k]? = some y := ⟨x.subs[k], List.getElem?_eq_getElem hk⟩
  have hm := List.mem_of_getElem? hy
  have hxs : ((x.subs.take k).map encLin).length ≤ 1000000000 := by simp; omega
  rw [take_snoc' hy, List.map_append]
  revert hxs
  generalize (x.subs.take k).map encLin = xs
  intro hxs
  cases xs with
  | nil => simp only [go_sem, Nat.reduceEqDiff, Nat.reduceAdd, Nat.reduceLeDiff, Nat.reduceMul, Nat.reduceSub, Int.reduceLT, Int.reduceLE, Int.reduceEq, Int.reduceAdd, Int.reduceNeg, reduceIte, reduceCtorEq, Nat.reduceLT, hkept, hi, iaO_map hy, (copy_lin (h.s y hm) (hl y hm)).call, Wk_enter]
  | cons c xs => simp only [go_sem, Nat.reduceEqDiff, Nat.reduceAdd, Nat.reduceLeDiff, Nat.reduceMul, Nat.reduceSub, Int.reduceLT, Int.reduceLE, Int.reduceEq, Int.reduceAdd, Int.reduceNeg, reduceIte, reduceCtorEq, Nat.reduceLT, hkept, hi, iaO_map hy, (copy_lin (h.s y hm) (hl y hm)).call, Wk_enter, app1 (len_Lin y) hxs]
 ·rintro F _ ⟨B, rfl⟩ hkept
  simp only [go_sem, Nat.reduceEqDiff, Nat.reduceAdd, Nat.reduceLeDiff, Nat.reduceMul, Nat.reduceSub, Int.reduceLT, Int.reduceLE, Int.reduceEq, Int.reduceAdd, Int.reduceNeg, reduceIte, reduceCtorEq, Nat.reduceLT] at hkept
  have e : [V.int .i64 x.a, grown 48 ((x.subs.take x.subs.length).map encLin)] = [V.int .i64 x.a, grown 48 (x.subs.map encLin)] := by rw [List.take_length]
  have f : cutV [V.int .i64 x.a, grown 48 (x.subs.map encLin)] 0 2 true = some (.agg (encRef (copyRef x))) := by
   simp [cutV, cutL, ofCells, strip_grown, strip_int, encRef, copyRef]
  simp only [go_sem, Nat.reduceEqDiff, Nat.reduceAdd, Nat.reduceLeDiff, Nat.reduceMul, Nat.reduceSub, Int.reduceLT, Int.reduceLE, Int.reduceEq, Int.reduceAdd, Int.reduceNeg, reduceIte, reduceCtorEq, Nat.reduceLT, hkept, e, f]
theorem wtR_len {α : Type} {enc : α → List V} (h1 : ∀ x, 1 ≤ wtL (enc x)) : ∀ l : List α, l.length ≤ wtR (l.map enc)
 | [] => by simp
 | x :: l => by
  have := h1 x
  have := wtR_len h1 l
  simp only [List.map_cons, wtR, List.length_cons]; omega
theorem wt1_I (x : Int) : 1 ≤ wtL (encI x) := by simp [encI, wtL, wt]
theorem wt_Lin (x : Lin) : wtL (encLin x) = 2 + wtR (x.c.map encI) := by simp only [encLin, wtL, wt]; omega
theorem wt_Ref (x : Ref) : wtL (encRef x) = 2 + wtR (x.subs.map encLin) := by simp only [encRef, wtL, wt]; omega
theorem sm_lin {x : Lin} {M : Nat} (h : wtL (encLin x) ≤ M) : x.c.length ≤ M := by
 have := wtR_len wt1_I x.c
 rw [wt_Lin] at h; omega
theorem wt_part {α : Type} {enc : α → List V} {l : List α} {y : α} (h : y ∈ l) : wtL (enc y) ≤ wtR (l.map enc) := wtR_mem (List.mem_map_of_mem (f := enc) h)
theorem copy_ref' {x : Ref} (h : OkRef x) (hs : wtL (encRef x) ≤ 1000000000) : Sp theEnv 87 [.agg (encRef x)] (.agg (encRef (copyRef x))) := by
 rw [wt_Ref] at hs
 have h1 := wtR_len (enc := encLin) (fun x => by rw [wt_Lin]; omega) x.subs
 refine copy_ref h (by omega) fun y hy => sm_lin ?_
 have := wt_part (enc := encLin) hy
 omega
mutual
def copyExp : Exp → Exp
 | ⟨op, k, l, r, n, args⟩ => ⟨op, k, l, copyRef r, args.isEmpty, copyExps args⟩
def copyExps : List Exp → List Exp
 | [] => []
 | x :: xs => copyExp x :: copyExps xs
end
theorem copyExps_map : ∀ l, copyExps l = l.map copyExp
 | [] => rfl
 | x :: xs => by simp only [copyExps, copyExps_map xs, List.map_cons]
theorem enc_copyExp (x : Exp) : encExp (copyExp x) = [.int .i64 x.op, .int .i64 x.k, .slice (nk x.l.n) (x.l.c.map encI), .int .i64 x.l.k, .int .i64 x.r.a, .slice (nk x.r.subs.isEmpty) (x.r.subs.map encLin), .slice (nk x.args.isEmpty) (x.args.map fun a => encExp (copyExp a))] := by
 cases x
 simp only [copyExp, encExp, encLin, encRef, copyRef, copyExps_map, encExps_map, List.map_map, Function.comp_def, List.cons_append, List.nil_append]
theorem wl_Exp (x : Exp) : wtL (encExp x) = 3 + wtL (encLin x.l) + wtL (encRef x.r) + wtR (x.args.map encExp) := by
 cases x
 simp only [encExp, wtL_append, wtL, wt, encExps_map]; omega
theorem copy_exp : ∀ x, OkExp x → wtL (encExp x) ≤ 1000000000 → Sp theEnv 88 [.agg (encExp x)] (.agg (encExp (copyExp x))) := by
 refine Exp.ind fun x ih hx hs => ?_
 rw [wl_Exp] at hs
 have hargs := wtR_len (enc := encExp) (fun x => by rw [wl_Exp]; omega) x.args
 have hl := copy_lin hx.l' (sm_lin (M := 1000000000) (by omega))
 have hr := copy_ref' hx.r' (by omega)
 refine Sp.fn rfl rfl rfl (by simp only [go_sem, Nat.reduceEqDiff, Nat.reduceAdd, Nat.reduceLeDiff, Nat.reduceMul, Nat.reduceSub, Int.reduceLT, Int.reduceLE, Int.reduceEq, Int.reduceAdd, Int.reduceNeg, reduceIte, reduceCtorEq, Nat.reduceLT]) (by simp only [go_sem, Nat.reduceEqDiff, Nat.reduceAdd, Nat.reduceLeDiff, Nat.reduceMul, Nat.reduceSub, Int.reduceLT, Int.reduceLE, Int.reduceEq, Int.reduceAdd, Int.reduceNeg, reduceIte, reduceCtorEq, Nat.reduceLT, implies_true]) fun S => ?_; simp only [a88, c88, go_sem, Nat.reduceEqDiff, Nat.reduceAdd, Nat.reduceLeDiff, Nat.reduceMul, Nat.reduceSub, Int.reduceLT, Int.reduceLE, Int.reduceEq, Int.reduceAdd, Int.reduceNeg, reduceIte, reduceCtorEq, Nat.reduceLT]
 simp only [hl.call, hr.call, go_sem, Nat.reduceEqDiff, Nat.reduceAdd, Nat.reduceLeDiff, Nat.reduceMul, Nat.reduceSub, Int.reduceLT, Int.reduceLE, Int.reduceEq, Int.reduceAdd, Int.reduceNeg, reduceIte, reduceCtorEq, Nat.reduceLT, Wk_enter]
 have e1 : encLin x.l = [.slice (nk x.l.n) (x.l.c.map encI), .int .i64 x.l.k] := rfl
 have e2 : encRef (copyRef x.r) = [.int .i64 x.r.a, .slice (nk x.r.subs.isEmpty) (x.r.subs.map encLin)] := rfl
 simp only [e1, e2, go_sem, Nat.reduceEqDiff, Nat.reduceAdd, Nat.reduceLeDiff, Nat.reduceMul, Nat.reduceSub, Int.reduceLT, Int.reduceLE, Int.reduceEq, Int.reduceAdd, Int.reduceNeg, reduceIte, reduceCtorEq, Nat.reduceLT, Wk_enter]
 refine Run_range x.args.length [2, 3, 18] [] (fun k _ S' => ∃ B, S' = ⟨encExp x :: [.int .i64 0, .int .i64 0, .slice .nil [], .int .i64 0, .int .i64 0, .slice .nil [], .slice .nil []] ::
   [.int .i64 x.op, .int .i64 x.k, .slice (nk x.l.n) (x.l.c.map encI), .int .i64 x.l.k, .int .i64 x.r.a, .slice (nk x.r.subs.isEmpty) (x.r.subs.map encLin), grown 51 ((x.args.take k).map fun a => encExp (copyExp a))] :: B, none⟩ :: S) hx.n' (by simp only [go_sem, Nat.reduceEqDiff, Nat.reduceAdd, Nat.reduceLeDiff, Nat.reduceMul, Nat.reduceSub, Int.reduceLT, Int.reduceLE, Int.reduceEq, Int.reduceAdd, Int.reduceNeg, reduceIte, reduceCtorEq, Nat.reduceLT]) (by simp only [go_sem, Nat.reduceEqDiff, Nat.reduceAdd, Nat.reduceLeDiff, Nat.reduceMul, Nat.reduceSub, Int.reduceLT, Int.reduceLE, Int.reduceEq, Int.reduceAdd, Int.reduceNeg, reduceIte, reduceCtorEq, Nat.reduceLT]) rfl rfl rfl rfl (by simp only [go_sem, Nat.reduceEqDiff, Nat.reduceAdd, Nat.reduceLeDiff, Nat.reduceMul, Nat.reduceSub, Int.reduceLT, Int.reduceLE, Int.reduceEq, Int.reduceAdd, Int.reduceNeg, reduceIte, reduceCtorEq, Nat.reduceLT]) ⟨_, rfl⟩ ?_ ?_
 ·rintro k F _ hk ⟨B, rfl⟩ hi hkept
  simp only [go_sem, Nat.reduceEqDiff, Nat.reduceAdd, Nat.reduceLeDiff, Nat.reduceMul, Nat.reduceSub, Int.reduceLT, Int.reduceLE, Int.reduceEq, Int.reduceAdd, Int.reduceNeg, reduceIte, reduceCtorEq, Nat.reduceLT] at hkept
  obtain ⟨y, hy⟩ : ∃ y, x.args[k]? = some y := ⟨x.args[k], List.getElem?_eq_getElem hk⟩
  have hm := List.mem_of_getElem? hy
  have hsy := wt_part (enc := encExp) hm
  have hxs : ((x.args.take k).map fun a => encExp (copyExp a)).length ≤ 1000000000 := by simp; omega
  have hc := ih y hm (hx.s' y hm) (by omega)
  rw [take_snoc' hy, List.map_append]
  revert hxs
  generalize ((x.args.take k).map fun a => encExp (copyExp a)) = xs
  intro hxs
  cases xs with
  | nil => simp only [go_sem, Nat.reduceEqDiff, Nat.reduceAdd, Nat.reduceLeDiff, Nat.reduceMul, Nat.reduceSub, Int.reduceLT, Int.reduceLE, Int.reduceEq, Int.reduceAdd, Int.reduceNeg, reduceIte, reduceCtorEq, Nat.reduceLT, hkept, hi, iaO_map hy, hc.call, Wk_enter]
  | cons c xs => simp only [go_sem, Nat.reduceEqDiff, Nat.reduceAdd, Nat.reduceLeDiff, Nat.reduceMul, Nat.reduceSub, Int.reduceLT, Int.reduceLE, Int.reduceEq, Int.reduceAdd, Int.reduceNeg, reduceIte, reduceCtorEq, Nat.reduceLT, hkept, hi, iaO_map hy, hc.call, Wk_enter, app1 (len_Exp _) hxs]
 ·rintro F _ ⟨B, rfl⟩ hkept
  simp only [go_sem, Nat.reduceEqDiff, Nat.reduceAdd, Nat.reduceLeDiff, Nat.reduceMul, Nat.reduceSub, Int.reduceLT, Int.reduceLE, Int.reduceEq, Int.reduceAdd, Int.reduceNeg, reduceIte, reduceCtorEq, Nat.reduceLT] at hkept
  rw [List.take_length]
  generalize hg : grown 51 (x.args.map fun a => encExp (copyExp a)) = w
  have f : cutV [.int .i64 x.op, .int .i64 x.k, .slice (nk x.l.n) (x.l.c.map encI), .int .i64 x.l.k, .int .i64 x.r.a, .slice (nk x.r.subs.isEmpty) (x.r.subs.map encLin), w] 0 7 true = some (.agg (encExp (copyExp x))) := by
   have hw : strip w = .slice (nk x.args.isEmpty) (x.args.map fun a => encExp (copyExp a)) := by rw [← hg, strip_grown, List.isEmpty_map]
   rw [enc_copyExp, ← hw]
   simp [cutV, cutL, ofCells, strip_int, strip_nk]
  simp only [go_sem, Nat.reduceEqDiff, Nat.reduceAdd, Nat.reduceLeDiff, Nat.reduceMul, Nat.reduceSub, Int.reduceLT, Int.reduceLE, Int.reduceEq, Int.reduceAdd, Int.reduceNeg, reduceIte, reduceCtorEq, Nat.reduceLT, hkept, f]
end Wp
end AM
end Go.Proofs.YtimfbnojmdnlnaaGreat
end
section
namespace Go.Proofs.YtimfbnojmdnlnaaGreat
namespace AM
namespace Wp
def copyPart (q : Part) : Part := ⟨q.rows.isEmpty, q.rows⟩
def copyBound (b : Bound) : Bound := ⟨b.parts.isEmpty, b.parts.map copyPart⟩
theorem wl_Rw (x : Rw) : wtL (encRw x) = 1 + wtL (encLin x.l) := by simp only [encRw, wtL_append, wtL, wt]; omega
theorem wl_Part (x : Part) : wtL (encPart x) = 1 + wtR (x.rows.map encRw) := by simp only [encPart, wtL, wt]; omega
theorem wl_Bound (x : Bound) : wtL (encBound x) = 1 + wtR (x.parts.map encPart) := by simp only [encBound, wtL, wt]; omega
theorem copy_bound {x : Bound} (h : OkBound x) (hs : wtL (encBound x) ≤ 1000000000) : Sp theEnv 85 [.agg (encBound x)] (.agg (encBound (copyBound x))) := by
 rw [wl_Bound] at hs
 have hn := wtR_len (enc := encPart) (fun x => by rw [wl_Part]; omega) x.parts
 refine Sp.fn rfl rfl rfl (by simp only [go_sem, Nat.reduceEqDiff, Nat.reduceAdd, Nat.reduceLeDiff, Nat.reduceMul, Nat.reduceSub, Int.reduceLT, Int.reduceLE, Int.reduceEq, Int.reduceAdd, Int.reduceNeg, reduceIte, reduceCtorEq, Nat.reduceLT]) (by simp only [go_sem, Nat.reduceEqDiff, Nat.reduceAdd, Nat.reduceLeDiff, Nat.reduceMul, Nat.reduceSub, Int.reduceLT, Int.reduceLE, Int.reduceEq, Int.reduceAdd, Int.reduceNeg, reduceIte, reduceCtorEq, Nat.reduceLT, implies_true]) fun S => ?_; simp only [a85, c85, go_sem, Nat.reduceEqDiff, Nat.reduceAdd, Nat.reduceLeDiff, Nat.reduceMul, Nat.reduceSub, Int.reduceLT, Int.reduceLE, Int.reduceEq, Int.reduceAdd, Int.reduceNeg, reduceIte, reduceCtorEq, Nat.reduceLT]
 refine Run_range x.parts.length [2, 3, 10] [] (fun k _ S' => ∃ B, S' = ⟨encBound x :: [.slice .nil []] :: [grown 151 ((x.parts.take k).map fun q => encPart (copyPart q))] :: B, none⟩ :: S) h.l (by simp only [go_sem, Nat.reduceEqDiff, Nat.reduceAdd, Nat.reduceLeDiff, Nat.reduceMul, Nat.reduceSub, Int.reduceLT, Int.reduceLE, Int.reduceEq, Int.reduceAdd, Int.reduceNeg, reduceIte, reduceCtorEq, Nat.reduceLT]) (by simp only [go_sem, Nat.reduceEqDiff, Nat.reduceAdd, Nat.reduceLeDiff, Nat.reduceMul, Nat.reduceSub, Int.reduceLT, Int.reduceLE, Int.reduceEq, Int.reduceAdd, Int.reduceNeg, reduceIte, reduceCtorEq, Nat.reduceLT]) rfl rfl rfl rfl (by simp only [go_sem, Nat.reduceEqDiff, Nat.reduceAdd, Nat.reduceLeDiff, Nat.reduceMul, Nat.reduceSub, Int.reduceLT, Int.reduceLE, Int.reduceEq, Int.reduceAdd, Int.reduceNeg, reduceIte, reduceCtorEq, Nat.reduceLT]) ⟨_, rfl⟩ ?_ ?_
 ·rintro k F _ hk ⟨B, rfl⟩ hi hkept
  simp only [go_sem, Nat.reduceEqDiff, Nat.reduceAdd, Nat.reduceLeDiff, Nat.reduceMul, Nat.reduceSub, Int.reduceLT, Int.reduceLE, Int.reduceEq, Int.reduceAdd, Int.reduceNeg, reduceIte, reduceCtorEq, Nat.reduceLT] at hkept
  obtain ⟨q, hq⟩ : ∃ y, x.parts[k]? = some y := ⟨x.parts[k], List.getElem?_eq_getElem hk⟩
  have hm := List.mem_of_getElem? hq
  have hqo := h.s q hm
  have hsq := wt_part (enc := encPart) hm
  rw [wl_Part] at hsq
  have hn2 := wtR_len (enc := encRw) (fun x => by rw [wl_Rw]; omega) q.rows
  simp only [go_sem, Nat.reduceEqDiff, Nat.reduceAdd, Nat.reduceLeDiff, Nat.reduceMul, Nat.reduceSub, Int.reduceLT, Int.reduceLE, Int.reduceEq, Int.reduceAdd, Int.reduceNeg, reduceIte, reduceCtorEq, Nat.reduceLT, hkept, hi, iaO_map hq]
  refine Run_range q.rows.length [2, 3, 10, 12, 16] [6] (fun j vs S' => vs = [grown 169 ((q.rows.take j).map encRw)] ∧ ∃ B2, S' = ⟨encBound x :: [.slice .nil []] :: [grown 151 ((x.parts.take k).map fun q => encPart (copyPart q))] :: B2, none⟩ :: S) hqo.l (by simp only [go_sem, Nat.reduceEqDiff, Nat.reduceAdd, Nat.reduceLeDiff, Nat.reduceMul, Nat.reduceSub, Int.reduceLT, Int.reduceLE, Int.reduceEq, Int.reduceAdd, Int.reduceNeg, reduceIte, reduceCtorEq, Nat.reduceLT, hkept]) (by simp only [go_sem, Nat.reduceEqDiff, Nat.reduceAdd, Nat.reduceLeDiff, Nat.reduceMul, Nat.reduceSub, Int.reduceLT, Int.reduceLE, Int.reduceEq, Int.reduceAdd, Int.reduceNeg, reduceIte, reduceCtorEq, Nat.reduceLT, hkept]) rfl rfl rfl rfl (by simp only [go_sem, Nat.reduceEqDiff, Nat.reduceAdd, Nat.reduceLeDiff, Nat.reduceMul, Nat.reduceSub, Int.reduceLT, Int.reduceLE, Int.reduceEq, Int.reduceAdd, Int.reduceNeg, reduceIte, reduceCtorEq, Nat.reduceLT, hkept, hi]) ⟨by simp only [go_sem, Nat.reduceEqDiff, Nat.reduceAdd, Nat.reduceLeDiff, Nat.reduceMul, Nat.reduceSub, Int.reduceLT, Int.reduceLE, Int.reduceEq, Int.reduceAdd, Int.reduceNeg, reduceIte, reduceCtorEq, Nat.reduceLT, List.take_zero, List.map_nil], _, rfl⟩ ?_ ?_
  ·rintro j F2 _ hj ⟨hv, B2, rfl⟩ hi2 hkept2
   simp only [go_sem, Nat.reduceEqDiff, Nat.reduceAdd, Nat.reduceLeDiff, Nat.reduceMul, Nat.reduceSub, Int.reduceLT, Int.reduceLE, Int.reduceEq, Int.reduceAdd, Int.reduceNeg, reduceIte, reduceCtorEq, Nat.reduceLT, hkept, hi] at hkept2 hv
   obtain ⟨y, hy⟩ : ∃ y, q.rows[j]? = some y := ⟨q.rows[j], List.getElem?_eq_getElem hj⟩
   have hmy := List.mem_of_getElem? hy
   have hsy := wt_part (enc := encRw) hmy
   rw [wl_Rw] at hsy
   have hc := copy_lin (hqo.s y hmy).l (sm_lin (M := 1000000000) (by omega))
   have hxs : ((q.rows.take j).map encRw).length ≤ 1000000000 := by simp; omega
   have e1 : encLin y.l = [.slice (nk y.l.n) (y.l.c.map encI), .int .i64 y.l.k] := rfl
   have e2 : [V.slice (nk y.l.n) (y.l.c.map encI), .int .i64 y.l.k, .int .i64 y.div] = encRw y := rfl
   rw [take_snoc' hy, List.map_append]
   revert hxs hv
   generalize (q.rows.take j).map encRw = xs
   intro hv hxs
   cases xs with
   | nil =>
    simp only [go_sem, Nat.reduceEqDiff, Nat.reduceAdd, Nat.reduceLeDiff, Nat.reduceMul, Nat.reduceSub, Int.reduceLT, Int.reduceLE, Int.reduceEq, Int.reduceAdd, Int.reduceNeg, reduceIte, reduceCtorEq, Nat.reduceLT, hkept2, hi2, hv, iaO_map hy, hc.call, Wk_enter]
    simp only [e1, go_sem, Nat.reduceEqDiff, Nat.reduceAdd, Nat.reduceLeDiff, Nat.reduceMul, Nat.reduceSub, Int.reduceLT, Int.reduceLE, Int.reduceEq, Int.reduceAdd, Int.reduceNeg, reduceIte, reduceCtorEq, Nat.reduceLT]
    simp only [e2, go_sem, Nat.reduceEqDiff, Nat.reduceAdd, Nat.reduceLeDiff, Nat.reduceMul, Nat.reduceSub, Int.reduceLT, Int.reduceLE, Int.reduceEq, Int.reduceAdd, Int.reduceNeg, reduceIte, reduceCtorEq, Nat.reduceLT, Wk_enter]
   | cons c xs =>
    simp only [go_sem, Nat.reduceEqDiff, Nat.reduceAdd, Nat.reduceLeDiff, Nat.reduceMul, Nat.reduceSub, Int.reduceLT, Int.reduceLE, Int.reduceEq, Int.reduceAdd, Int.reduceNeg, reduceIte, reduceCtorEq, Nat.reduceLT, hkept2, hi2, hv, iaO_map hy, hc.call, Wk_enter]
    simp only [e1, go_sem, Nat.reduceEqDiff, Nat.reduceAdd, Nat.reduceLeDiff, Nat.reduceMul, Nat.reduceSub, Int.reduceLT, Int.reduceLE, Int.reduceEq, Int.reduceAdd, Int.reduceNeg, reduceIte, reduceCtorEq, Nat.reduceLT]
    simp only [e2, go_sem, Nat.reduceEqDiff, Nat.reduceAdd, Nat.reduceLeDiff, Nat.reduceMul, Nat.reduceSub, Int.reduceLT, Int.reduceLE, Int.reduceEq, Int.reduceAdd, Int.reduceNeg, reduceIte, reduceCtorEq, Nat.reduceLT, Wk_enter, app1 (len_Rw y) hxs]
  ·rintro F2 _ ⟨hv, B2, rfl⟩ hkept2
   simp only [go_sem, Nat.reduceEqDiff, Nat.reduceAdd, Nat.reduceLeDiff, Nat.reduceMul, Nat.reduceSub, Int.reduceLT, Int.reduceLE, Int.reduceEq, Int.reduceAdd, Int.reduceNeg, reduceIte, reduceCtorEq, Nat.reduceLT, hkept, hi] at hkept2 hv
   rw [List.take_length] at hv
   have e3 : [V.slice (nk (q.rows.map encRw).isEmpty) (q.rows.map encRw)] = encPart (copyPart q) := by simp [encPart, copyPart]
   have hxs : ((x.parts.take k).map fun q => encPart (copyPart q)).length ≤ 1000000000 := by simp; omega
   rw [take_snoc' hq, List.map_append]
   revert hxs
   generalize ((x.parts.take k).map fun q => encPart (copyPart q)) = xs
   intro hxs
   cases xs with
   | nil => simp only [go_sem, Nat.reduceEqDiff, Nat.reduceAdd, Nat.reduceLeDiff, Nat.reduceMul, Nat.reduceSub, Int.reduceLT, Int.reduceLE, Int.reduceEq, Int.reduceAdd, Int.reduceNeg, reduceIte, reduceCtorEq, Nat.reduceLT, hkept2, hv, Wk_enter, e3]
   | cons c xs => simp only [go_sem, Nat.reduceEqDiff, Nat.reduceAdd, Nat.reduceLeDiff, Nat.reduceMul, Nat.reduceSub, Int.reduceLT, Int.reduceLE, Int.reduceEq, Int.reduceAdd, Int.reduceNeg, reduceIte, reduceCtorEq, Nat.reduceLT, hkept2, hv, Wk_enter, e3, app1 (len_Part _) hxs]
 ·rintro F _ ⟨B, rfl⟩ hkept
  simp only [go_sem, Nat.reduceEqDiff, Nat.reduceAdd, Nat.reduceLeDiff, Nat.reduceMul, Nat.reduceSub, Int.reduceLT, Int.reduceLE, Int.reduceEq, Int.reduceAdd, Int.reduceNeg, reduceIte, reduceCtorEq, Nat.reduceLT] at hkept
  rw [List.take_length]
  generalize hg : grown 151 (x.parts.map fun a => encPart (copyPart a)) = w
  have f : cutV [w] 0 1 true = some (.agg (encBound (copyBound x))) := by
   have hw : strip w = .slice (nk x.parts.isEmpty) (x.parts.map fun a => encPart (copyPart a)) := by rw [← hg, strip_grown, List.isEmpty_map]
   simp only [cutV, cutL, ofCells, List.length_cons, List.length_nil, List.drop_zero, Nat.le_refl, Nat.zero_add, if_true, List.take, Option.bind_some, List.map_cons, List.map_nil, hw, encBound, copyBound, List.map_map, Function.comp_def, strip_nk]
  simp only [go_sem, Nat.reduceEqDiff, Nat.reduceAdd, Nat.reduceLeDiff, Nat.reduceMul, Nat.reduceSub, Int.reduceLT, Int.reduceLE, Int.reduceEq, Int.reduceAdd, Int.reduceNeg, reduceIte, reduceCtorEq, Nat.reduceLT, hkept, f]
end Wp
end AM
end Go.Proofs.YtimfbnojmdnlnaaGreat
end
section
namespace Go.Proofs.YtimfbnojmdnlnaaGreat
namespace AM
namespace Wp
def aggC (a : V) : Option V → Option V
 | some (.agg l) => some (.agg (a :: l))
 | _ => none
theorem aggC_some {a : V} {l : List V} : aggC a (some (.agg l)) = some (.agg (a :: l)) := rfl
theorem cutV_0 {cs : List V} : cutV cs 0 0 true = some (.agg []) := by simp [cutV, cutL, ofCells]
theorem cutV_g {c : V} {cs : List V} {n : Nat} : cutV (c :: cs) 0 (n + 1) true = aggC (strip c) (cutV cs 0 n true) := by
 simp only [cutV, cutL, List.length_cons, List.drop_zero, Nat.zero_add]
 by_cases h : n ≤ cs.length
 ·rw [if_pos h, if_pos (by omega)]; simp [ofCells, aggC]
 ·rw [if_neg h, if_neg (by omega)]; rfl
def copyPiece (q : Piece) : Piece := ⟨false, q.conds⟩
def copyPSet (s : PSet) : PSet := ⟨s.dim, s.pieces.isEmpty, s.pieces.map copyPiece⟩
mutual
def copyStm : Stm → Stm
 | ⟨kind, name, low, high, step, mark, test, target, value, bn, body, en, els⟩ => ⟨kind, name, copyBound low, copyBound high, step, mark, copyPSet test, copyRef target, copyExp value, body.isEmpty, copyStms body, els.isEmpty, copyStms els⟩
def copyStms : List Stm → List Stm
 | [] => []
 | x :: xs => copyStm x :: copyStms xs
end
theorem copyStms_map : ∀ l, copyStms l = l.map copyStm
 | [] => rfl
 | x :: xs => by simp only [copyStms, copyStms_map xs, List.map_cons]
def SetCopy : Prop := ∀ q : Piece, OkPiece q → wtL (encPiece q) ≤ 1000000000 → Sp theEnv 86 [.slice (nk q.n) (q.conds.map encCnd)] (.slice .shut (q.conds.map encCnd))
theorem wl_Piece (x : Piece) : wtL (encPiece x) = 1 + wtR (x.conds.map encCnd) := by simp only [encPiece, wtL, wt]; omega
theorem wl_PSet (x : PSet) : wtL (encPSet x) = 2 + wtR (x.pieces.map encPiece) := by simp only [encPSet, wtL, wt]; omega
def cellsStm (x : Stm) : List V := [.int .i64 x.kind, .str x.name, .slice (nk x.low.n) (x.low.parts.map encPart), .slice (nk x.high.n) (x.high.parts.map encPart), .int .i64 x.step, .int .i64 x.mark, .int .i64 x.test.dim, .slice (nk x.test.n) (x.test.pieces.map encPiece),
 .int .i64 x.target.a, .slice (nk x.target.n) (x.target.subs.map encLin), .int .i64 x.value.op, .int .i64 x.value.k, .slice (nk x.value.l.n) (x.value.l.c.map encI), .int .i64 x.value.l.k, .int .i64 x.value.r.a, .slice (nk x.value.r.n) (x.value.r.subs.map encLin), .slice (nk x.value.n) (x.value.args.map encExp),
 .slice (nk x.bn) (x.body.map encStm), .slice (nk x.en) (x.els.map encStm)]
theorem enc_cells (x : Stm) : encStm x = cellsStm x := by
 cases x with
 | mk kind name low high step mark test target value bn body en els =>
  cases value
  simp only [encStm, cellsStm, encBound, encPSet, encRef, encExp, encLin, encStms_map, encExps_map, List.cons_append, List.nil_append]
theorem wl_Stm (x : Stm) : wtL (encStm x) = 4 + wtL (encBound x.low) + wtL (encBound x.high) + wtL (encPSet x.test) + wtL (encRef x.target) + wtL (encExp x.value) + (1 + wtR (x.body.map encStm)) + (1 + wtR (x.els.map encStm)) := by
 cases x
 simp only [encStm, wtL_append, wtL, wt, encStms_map]; omega
theorem copy_stms (h78 : SetCopy) {b : Bool} {l : List Stm} (hl : l.length ≤ 1000000000) (hc : ∀ x ∈ l, Sp theEnv 47 [.agg (encStm x)] (.agg (encStm (copyStm x)))) : Sp theEnv 59 [.slice (nk b) (l.map encStm)] (grown 53 (l.map fun x => encStm (copyStm x))) := by
 refine Sp.fn rfl rfl rfl (by simp only [go_sem, Nat.reduceEqDiff, Nat.reduceAdd, Nat.reduceLeDiff, Nat.reduceMul, Nat.reduceSub, Int.reduceLT, Int.reduceLE, Int.reduceEq, Int.reduceAdd, Int.reduceNeg, reduceIte, reduceCtorEq, Nat.reduceLT]) (by simp only [go_sem, Nat.reduceEqDiff, Nat.reduceAdd, Nat.reduceLeDiff, Nat.reduceMul, Nat.reduceSub, Int.reduceLT, Int.reduceLE, Int.reduceEq, Int.reduceAdd, Int.reduceNeg, reduceIte, reduceCtorEq, Nat.reduceLT, implies_true]) fun S => ?_; simp only [a59, c59, go_sem, Nat.reduceEqDiff, Nat.reduceAdd, Nat.reduceLeDiff, Nat.reduceMul, Nat.reduceSub, Int.reduceLT, Int.reduceLE, Int.reduceEq, Int.reduceAdd, Int.reduceNeg, reduceIte, reduceCtorEq, Nat.reduceLT]
 refine Run_range l.length [6] [3] (fun k vs S' => vs = [grown 53 ((l.take k).map fun x => encStm (copyStm x))] ∧ ∃ B, S' = ⟨B, none⟩ :: S) (by omega) (by simp only [go_sem, Nat.reduceEqDiff, Nat.reduceAdd, Nat.reduceLeDiff, Nat.reduceMul, Nat.reduceSub, Int.reduceLT, Int.reduceLE, Int.reduceEq, Int.reduceAdd, Int.reduceNeg, reduceIte, reduceCtorEq, Nat.reduceLT]) (by simp only [go_sem, Nat.reduceEqDiff, Nat.reduceAdd, Nat.reduceLeDiff, Nat.reduceMul, Nat.reduceSub, Int.reduceLT, Int.reduceLE, Int.reduceEq, Int.reduceAdd, Int.reduceNeg, reduceIte, reduceCtorEq, Nat.reduceLT]) rfl rfl rfl rfl (by simp only [go_sem, Nat.reduceEqDiff, Nat.reduceAdd, Nat.reduceLeDiff, Nat.reduceMul, Nat.reduceSub, Int.reduceLT, Int.reduceLE, Int.reduceEq, Int.reduceAdd, Int.reduceNeg, reduceIte, reduceCtorEq, Nat.reduceLT]) ⟨by simp only [go_sem, Nat.reduceEqDiff, Nat.reduceAdd, Nat.reduceLeDiff, Nat.reduceMul, Nat.reduceSub, Int.reduceLT, Int.reduceLE, Int.reduceEq, Int.reduceAdd, Int.reduceNeg, reduceIte, reduceCtorEq, Nat.reduceLT, List.take_zero, List.map_nil], _, rfl⟩ ?_ ?_
 ·rintro k F _ hk ⟨hv, B, rfl⟩ hi hkept
  simp only [go_sem, Nat.reduceEqDiff, Nat.reduceAdd, Nat.reduceLeDiff, Nat.reduceMul, Nat.reduceSub, Int.reduceLT, Int.reduceLE, Int.reduceEq, Int.reduceAdd, Int.reduceNeg, reduceIte, reduceCtorEq, Nat.reduceLT] at hkept hv
  obtain ⟨y, hy⟩ : ∃ y, l[k]? = some y := ⟨l[k], List.getElem?_eq_getElem hk⟩
  have hm := List.mem_of_getElem? hy
  have hxs : ((l.take k).map fun x => encStm (copyStm x)).length ≤ 1000000000 := by simp; omega
  rw [take_snoc' hy, List.map_append]
  revert hxs hv
  generalize ((l.take k).map fun x => encStm (copyStm x)) = xs
  intro hv hxs
  cases xs with
  | nil => simp only [go_sem, Nat.reduceEqDiff, Nat.reduceAdd, Nat.reduceLeDiff, Nat.reduceMul, Nat.reduceSub, Int.reduceLT, Int.reduceLE, Int.reduceEq, Int.reduceAdd, Int.reduceNeg, reduceIte, reduceCtorEq, Nat.reduceLT, hkept, hi, hv, iaO_map hy, (hc y hm).call, Wk_enter]
  | cons c xs => simp only [go_sem, Nat.reduceEqDiff, Nat.reduceAdd, Nat.reduceLeDiff, Nat.reduceMul, Nat.reduceSub, Int.reduceLT, Int.reduceLE, Int.reduceEq, Int.reduceAdd, Int.reduceNeg, reduceIte, reduceCtorEq, Nat.reduceLT, hkept, hi, hv, iaO_map hy, (hc y hm).call, Wk_enter, app1 (len_Stm _) hxs]
 ·rintro F _ ⟨hv, B, rfl⟩ hkept
  simp only [go_sem, Nat.reduceEqDiff, Nat.reduceAdd, Nat.reduceLeDiff, Nat.reduceMul, Nat.reduceSub, Int.reduceLT, Int.reduceLE, Int.reduceEq, Int.reduceAdd, Int.reduceNeg, reduceIte, reduceCtorEq, Nat.reduceLT] at hkept hv
  rw [List.take_length] at hv
  simp only [go_sem, Nat.reduceEqDiff, Nat.reduceAdd, Nat.reduceLeDiff, Nat.reduceMul, Nat.reduceSub, Int.reduceLT, Int.reduceLE, Int.reduceEq, Int.reduceAdd, Int.reduceNeg, reduceIte, reduceCtorEq, Nat.reduceLT, hkept, hv]
end Wp
end AM
end Go.Proofs.YtimfbnojmdnlnaaGreat
end
section
namespace Go.Proofs.YtimfbnojmdnlnaaGreat
namespace AM
namespace Wp
theorem low_cells (x : Stm) (n : Nat) : lowL n (cellsStm x) = true := by rw [← enc_cells]; exact low_Stm x n
theorem enc_copyStm (x : Stm) : encStm (copyStm x) = [.int .i64 x.kind, .str x.name, .slice (nk x.low.parts.isEmpty) ((copyBound x.low).parts.map encPart), .slice (nk x.high.parts.isEmpty) ((copyBound x.high).parts.map encPart), .int .i64 x.step, .int .i64 x.mark, .int .i64 x.test.dim, .slice (nk x.test.pieces.isEmpty) (x.test.pieces.map fun q => encPiece (copyPiece q)),
  .int .i64 x.target.a, .slice (nk x.target.subs.isEmpty) (x.target.subs.map encLin), .int .i64 x.value.op, .int .i64 x.value.k, .slice (nk x.value.l.n) (x.value.l.c.map encI), .int .i64 x.value.l.k, .int .i64 x.value.r.a, .slice (nk x.value.r.subs.isEmpty) (x.value.r.subs.map encLin), .slice (nk x.value.args.isEmpty) (x.value.args.map fun a => encExp (copyExp a)),
  .slice (nk x.body.isEmpty) (x.body.map fun y => encStm (copyStm y)), .slice (nk x.els.isEmpty) (x.els.map fun y => encStm (copyStm y))] := by
 rw [enc_cells]
 cases x with
 | mk kind name low high step mark test target value bn body en els =>
  cases value
  simp only [copyStm, cellsStm, copyBound, copyPSet, copyRef, copyExp, copyStms_map, copyExps_map, List.map_map, Function.comp_def]
theorem copy_stm (h78 : SetCopy) : ∀ x, OkStm x → wtL (encStm x) ≤ 1000000000 → Sp theEnv 47 [.agg (encStm x)] (.agg (encStm (copyStm x))) := by
 refine Stm.ind fun x ihb ihe hx hs => ?_
 rw [wl_Stm] at hs
 have hbn := wtR_len (enc := encStm) (fun x => by rw [wl_Stm]; omega) x.body
 have hen := wtR_len (enc := encStm) (fun x => by rw [wl_Stm]; omega) x.els
 have hb := copy_stms h78 (b := x.bn) (l := x.body) (by omega) fun y hy => ihb y hy (hx.body' y hy) (by have := wt_part (enc := encStm) hy; omega)
 have he := copy_stms h78 (b := x.en) (l := x.els) (by omega) fun y hy => ihe y hy (hx.els' y hy) (by have := wt_part (enc := encStm) hy; omega)
 have hlow : Sp theEnv 85 [.agg [.slice (nk x.low.n) (x.low.parts.map encPart)]] (.agg [.slice (nk x.low.parts.isEmpty) ((copyBound x.low).parts.map encPart)]) := copy_bound hx.low' (by omega)
 have hhigh : Sp theEnv 85 [.agg [.slice (nk x.high.n) (x.high.parts.map encPart)]] (.agg [.slice (nk x.high.parts.isEmpty) ((copyBound x.high).parts.map encPart)]) := copy_bound hx.high' (by omega)
 have htgt : Sp theEnv 87 [.agg [.int .i64 x.target.a, .slice (nk x.target.n) (x.target.subs.map encLin)]] (.agg [.int .i64 x.target.a, .slice (nk x.target.subs.isEmpty) (x.target.subs.map encLin)]) := copy_ref' hx.target' (by omega)
 have hval : Sp theEnv 88 [.agg [.int .i64 x.value.op, .int .i64 x.value.k, .slice (nk x.value.l.n) (x.value.l.c.map encI), .int .i64 x.value.l.k, .int .i64 x.value.r.a, .slice (nk x.value.r.n) (x.value.r.subs.map encLin), .slice (nk x.value.n) (x.value.args.map encExp)]]
   (.agg [.int .i64 x.value.op, .int .i64 x.value.k, .slice (nk x.value.l.n) (x.value.l.c.map encI), .int .i64 x.value.l.k, .int .i64 x.value.r.a, .slice (nk x.value.r.subs.isEmpty) (x.value.r.subs.map encLin), .slice (nk x.value.args.isEmpty) (x.value.args.map fun a => encExp (copyExp a))]) := by
  have h := copy_exp x.value hx.value' (by omega)
  rw [enc_copyExp] at h
  have e : encExp x.value = [.int .i64 x.value.op, .int .i64 x.value.k, .slice (nk x.value.l.n) (x.value.l.c.map encI), .int .i64 x.value.l.k, .int .i64 x.value.r.a, .slice (nk x.value.r.n) (x.value.r.subs.map encLin), .slice (nk x.value.n) (x.value.args.map encExp)] := by
   cases x.value; simp only [encExp, encLin, encRef, encExps_map, List.cons_append, List.nil_append]
  rw [e] at h
  exact h
 rw [enc_cells]
 refine Sp.fn rfl rfl rfl (by simp only [lowL, low, low_cells, Bool.and_self]) (by simp only [go_sem, Nat.reduceEqDiff, Nat.reduceAdd, Nat.reduceLeDiff, Nat.reduceMul, Nat.reduceSub, Int.reduceLT, Int.reduceLE, Int.reduceEq, Int.reduceAdd, Int.reduceNeg, reduceIte, reduceCtorEq, Nat.reduceLT, implies_true]) fun S => ?_
 simp only [cellsStm, a47, c47, go_sem, Nat.reduceEqDiff, Nat.reduceAdd, Nat.reduceLeDiff, Nat.reduceMul, Nat.reduceSub, Int.reduceLT, Int.reduceLE, Int.reduceEq, Int.reduceAdd, Int.reduceNeg, reduceIte, reduceCtorEq, Nat.reduceLT, cutV_g, cutV_0, aggC_some, hlow.call, hhigh.call, Wk_enter]
 refine Run_range x.test.pieces.length [1, 2, 3, 22] [] (fun k _ S' => ∃ z B, z.length = 19 ∧ S' = ⟨cellsStm x :: z :: [.int .i64 x.kind, .str x.name, .slice (nk x.low.parts.isEmpty) ((copyBound x.low).parts.map encPart), .slice (nk x.high.parts.isEmpty) ((copyBound x.high).parts.map encPart), .int .i64 x.step, .int .i64 x.mark, .int .i64 x.test.dim, grown 152 ((x.test.pieces.take k).map fun q => encPiece (copyPiece q)),
  .int .i64 x.target.a, .slice (nk x.target.n) (x.target.subs.map encLin), .int .i64 x.value.op, .int .i64 x.value.k, .slice (nk x.value.l.n) (x.value.l.c.map encI), .int .i64 x.value.l.k, .int .i64 x.value.r.a, .slice (nk x.value.r.n) (x.value.r.subs.map encLin), .slice (nk x.value.n) (x.value.args.map encExp),
  .slice (nk x.bn) (x.body.map encStm), .slice (nk x.en) (x.els.map encStm)] :: B, none⟩ :: S) hx.test'.l (by simp only [go_sem, Nat.reduceEqDiff, Nat.reduceAdd, Nat.reduceLeDiff, Nat.reduceMul, Nat.reduceSub, Int.reduceLT, Int.reduceLE, Int.reduceEq, Int.reduceAdd, Int.reduceNeg, reduceIte, reduceCtorEq, Nat.reduceLT]) (by simp only [go_sem, Nat.reduceEqDiff, Nat.reduceAdd, Nat.reduceLeDiff, Nat.reduceMul, Nat.reduceSub, Int.reduceLT, Int.reduceLE, Int.reduceEq, Int.reduceAdd, Int.reduceNeg, reduceIte, reduceCtorEq, Nat.reduceLT]) rfl rfl rfl rfl (by simp only [go_sem, Nat.reduceEqDiff, Nat.reduceAdd, Nat.reduceLeDiff, Nat.reduceMul, Nat.reduceSub, Int.reduceLT, Int.reduceLE, Int.reduceEq, Int.reduceAdd, Int.reduceNeg, reduceIte, reduceCtorEq, Nat.reduceLT]) ⟨_, _, rfl, rfl⟩ ?_ ?_
 ·rintro k F _ hk ⟨z, B, hz, rfl⟩ hi hkept
  simp only [go_sem, Nat.reduceEqDiff, Nat.reduceAdd, Nat.reduceLeDiff, Nat.reduceMul, Nat.reduceSub, Int.reduceLT, Int.reduceLE, Int.reduceEq, Int.reduceAdd, Int.reduceNeg, reduceIte, reduceCtorEq, Nat.reduceLT] at hkept
  obtain ⟨q, hq⟩ : ∃ y, x.test.pieces[k]? = some y := ⟨x.test.pieces[k], List.getElem?_eq_getElem hk⟩
  have hm := List.mem_of_getElem? hq
  have hn := wtR_len (enc := encPiece) (fun x => by rw [wl_Piece]; omega) x.test.pieces
  rw [wl_PSet] at hs
  have hsq := wt_part (enc := encPiece) hm
  have hc := h78 q (hx.test'.s q hm) (by omega)
  have e3 : [V.slice .shut (q.conds.map encCnd)] = encPiece (copyPiece q) := rfl
  have hxs : ((x.test.pieces.take k).map fun q => encPiece (copyPiece q)).length ≤ 1000000000 := by simp; omega
  rw [take_snoc' hq, List.map_append]
  revert hxs
  generalize ((x.test.pieces.take k).map fun q => encPiece (copyPiece q)) = xs
  intro hxs
  cases xs with
  | nil =>
   simp only [go_sem, Nat.reduceEqDiff, Nat.reduceAdd, Nat.reduceLeDiff, Nat.reduceMul, Nat.reduceSub, Int.reduceLT, Int.reduceLE, Int.reduceEq, Int.reduceAdd, Int.reduceNeg, reduceIte, reduceCtorEq, Nat.reduceLT, hkept, hi, iaO_map hq, hc.call, Wk_enter, e3]
   exact ⟨_, _, hz, rfl, rfl⟩
  | cons c xs =>
   simp only [go_sem, Nat.reduceEqDiff, Nat.reduceAdd, Nat.reduceLeDiff, Nat.reduceMul, Nat.reduceSub, Int.reduceLT, Int.reduceLE, Int.reduceEq, Int.reduceAdd, Int.reduceNeg, reduceIte, reduceCtorEq, Nat.reduceLT, hkept, hi, iaO_map hq, hc.call, Wk_enter, e3, app1 (len_Piece _) hxs]
   exact ⟨_, _, hz, rfl, rfl⟩
 ·rintro F _ ⟨z, B, hz, rfl⟩ hkept
  simp only [go_sem, Nat.reduceEqDiff, Nat.reduceAdd, Nat.reduceLeDiff, Nat.reduceMul, Nat.reduceSub, Int.reduceLT, Int.reduceLE, Int.reduceEq, Int.reduceAdd, Int.reduceNeg, reduceIte, reduceCtorEq, Nat.reduceLT] at hkept
  rw [List.take_length]
  have hz' : dz (some z) = some z := dz_len (by omega)
  simp only [cellsStm, go_sem, Nat.reduceEqDiff, Nat.reduceAdd, Nat.reduceLeDiff, Nat.reduceMul, Nat.reduceSub, Int.reduceLT, Int.reduceLE, Int.reduceEq, Int.reduceAdd, Int.reduceNeg, reduceIte, reduceCtorEq, Nat.reduceLT, hkept, hz', cutV_g, cutV_0, aggC_some, htgt.call, hval.call, hb.call, he.call, Wk_enter]
  refine ⟨by omega, ?_⟩
  rw [enc_copyStm]
  simp only [List.isEmpty_map]
end Wp
end AM
end Go.Proofs.YtimfbnojmdnlnaaGreat
end
section
namespace Go.Proofs.YtimfbnojmdnlnaaGreat
namespace AM
namespace Wp
theorem app_gg {e n b : Nat} {xs ys : List (List V)} (h : allLen n ys = true) (h1 : xs.length + ys.length ≤ 1000000000) (h2 : b ≤ 1000) : appO e n b (grown e xs) (grown e ys) = some (grown e (xs ++ ys)) := by
 have h3 : (xs.length + ys.length) * b ≤ 140737488355328 := by
  calc (xs.length + ys.length) * b ≤ 1000000000 * 1000 := Nat.mul_le_mul h1 h2
   _ ≤ _ := by decide
 cases ys with
 | nil => exact appO_grown (k := .nil) h h3 (by omega)
 | cons y ys => exact appO_grown (k := .own e) h h3 (by omega)
mutual
def readsE : Exp → List Ref
 | ⟨op, _, _, r, _, args⟩ => if op = 2 then [copyRef r] else readsEs args
def readsEs : List Exp → List Ref
 | [] => []
 | x :: xs => readsE x ++ readsEs xs
end
theorem readsEs_snoc {y : Exp} : ∀ {xs : List Exp}, readsEs (xs ++ [y]) = readsEs xs ++ readsE y
 | [] => by simp [readsEs]
 | x :: xs => by simp only [List.cons_append, readsEs, readsEs_snoc, List.append_assoc]
mutual
theorem reads_wt : ∀ x, (readsE x).length ≤ wtL (encExp x)
 | ⟨op, k, l, r, n, args⟩ => by
  have := reads_wts args
  simp only [readsE, encExp, wtL_append, wtL, wt]
  split
  ·simp; omega
  ·omega
theorem reads_wts : ∀ xs, (readsEs xs).length ≤ wtR (encExps xs)
 | [] => by simp [readsEs]
 | x :: xs => by
  have := reads_wt x
  have := reads_wts xs
  simp only [readsEs, List.length_append, encExps, wtR]
  omega
end
theorem reads_eq (x : Exp) : readsE x = if x.op = 2 then [copyRef x.r] else readsEs x.args := by cases x; rw [readsE]
theorem wtR_take {α : Type} {enc : α → List V} : ∀ {l : List α} {k : Nat}, wtR ((l.take k).map enc) ≤ wtR (l.map enc)
 | [], k => by simp
 | x :: l, 0 => by simp [wtR]
 | x :: l, k + 1 => by
  have := wtR_take (enc := enc) (l := l) (k := k)
  simp only [List.take_succ_cons, List.map_cons, wtR]; omega
theorem reads_ok : ∀ x, OkExp x → wtL (encExp x) ≤ 1000000000 → Sp theEnv 48 [.agg (encExp x)] (grown 46 ((readsE x).map encRef)) := by
 refine Exp.ind fun x ih hx hs => ?_
 have hr := copy_ref' hx.r' (by rw [wl_Exp] at hs; omega)
 refine Sp.fn rfl rfl rfl (by simp only [go_sem, Nat.reduceEqDiff, Nat.reduceAdd, Nat.reduceLeDiff, Nat.reduceMul, Nat.reduceSub, Int.reduceLT, Int.reduceLE, Int.reduceEq, Int.reduceAdd, Int.reduceNeg, reduceIte, reduceCtorEq, Nat.reduceLT]) (by simp only [go_sem, Nat.reduceEqDiff, Nat.reduceAdd, Nat.reduceLeDiff, Nat.reduceMul, Nat.reduceSub, Int.reduceLT, Int.reduceLE, Int.reduceEq, Int.reduceAdd, Int.reduceNeg, reduceIte, reduceCtorEq, Nat.reduceLT, implies_true]) fun S => ?_; simp only [a48, c48, go_sem, Nat.reduceEqDiff, Nat.reduceAdd, Nat.reduceLeDiff, Nat.reduceMul, Nat.reduceSub, Int.reduceLT, Int.reduceLE, Int.reduceEq, Int.reduceAdd, Int.reduceNeg, reduceIte, reduceCtorEq, Nat.reduceLT]
 rw [Run_if]
 simp only [go_sem, Nat.reduceEqDiff, Nat.reduceAdd, Nat.reduceLeDiff, Nat.reduceMul, Nat.reduceSub, Int.reduceLT, Int.reduceLE, Int.reduceEq, Int.reduceAdd, Int.reduceNeg, reduceIte, reduceCtorEq, Nat.reduceLT, hr.call, reads_eq x]
 split
 ·rename_i hop
  simp only [go_sem, Nat.reduceEqDiff, Nat.reduceAdd, Nat.reduceLeDiff, Nat.reduceMul, Nat.reduceSub, Int.reduceLT, Int.reduceLE, Int.reduceEq, Int.reduceAdd, Int.reduceNeg, reduceIte, reduceCtorEq, Nat.reduceLT, if_pos hop]
 ·rename_i hop
  refine Run_range x.args.length [14] [3] (fun k vs S' => vs = [grown 46 ((readsEs (x.args.take k)).map encRef)] ∧ ∃ B, S' = ⟨encExp x :: B, none⟩ :: S) hx.n' (by simp only [go_sem, Nat.reduceEqDiff, Nat.reduceAdd, Nat.reduceLeDiff, Nat.reduceMul, Nat.reduceSub, Int.reduceLT, Int.reduceLE, Int.reduceEq, Int.reduceAdd, Int.reduceNeg, reduceIte, reduceCtorEq, Nat.reduceLT]) (by simp only [go_sem, Nat.reduceEqDiff, Nat.reduceAdd, Nat.reduceLeDiff, Nat.reduceMul, Nat.reduceSub, Int.reduceLT, Int.reduceLE, Int.reduceEq, Int.reduceAdd, Int.reduceNeg, reduceIte, reduceCtorEq, Nat.reduceLT]) rfl rfl rfl rfl (by simp only [go_sem, Nat.reduceEqDiff, Nat.reduceAdd, Nat.reduceLeDiff, Nat.reduceMul, Nat.reduceSub, Int.reduceLT, Int.reduceLE, Int.reduceEq, Int.reduceAdd, Int.reduceNeg, reduceIte, reduceCtorEq, Nat.reduceLT]) ⟨by simp only [go_sem, Nat.reduceEqDiff, Nat.reduceAdd, Nat.reduceLeDiff, Nat.reduceMul, Nat.reduceSub, Int.reduceLT, Int.reduceLE, Int.reduceEq, Int.reduceAdd, Int.reduceNeg, reduceIte, reduceCtorEq, Nat.reduceLT, List.take_zero, readsEs, List.map_nil], _, rfl⟩ ?_ ?_
  ·rintro k F _ hk ⟨hv, B, rfl⟩ hi hkept
   simp only [go_sem, Nat.reduceEqDiff, Nat.reduceAdd, Nat.reduceLeDiff, Nat.reduceMul, Nat.reduceSub, Int.reduceLT, Int.reduceLE, Int.reduceEq, Int.reduceAdd, Int.reduceNeg, reduceIte, reduceCtorEq, Nat.reduceLT] at hkept hv
   obtain ⟨y, hy⟩ : ∃ y, x.args[k]? = some y := ⟨x.args[k], List.getElem?_eq_getElem hk⟩
   have hm := List.mem_of_getElem? hy
   rw [wl_Exp] at hs
   have hsy := wt_part (enc := encExp) hm
   have hc := ih y hm (hx.s' y hm) (by omega)
   have h1 := reads_wts (x.args.take (k + 1))
   rw [encExps_map] at h1
   have h2 := wtR_take (enc := encExp) (l := x.args) (k := k + 1)
   rw [take_snoc' hy, readsEs_snoc] at h1
   rw [List.length_append] at h1
   rw [← take_snoc' hy] at h1
   rw [take_snoc' hy, readsEs_snoc, List.map_append]
   have ha : appO 46 2 32 (grown 46 ((readsEs (x.args.take k)).map encRef)) (grown 46 ((readsE y).map encRef)) = some (grown 46 ((readsEs (x.args.take k)).map encRef ++ (readsE y).map encRef)) := app_gg (lens_Ref _) (by simp; omega) (by omega)
   simp only [go_sem, Nat.reduceEqDiff, Nat.reduceAdd, Nat.reduceLeDiff, Nat.reduceMul, Nat.reduceSub, Int.reduceLT, Int.reduceLE, Int.reduceEq, Int.reduceAdd, Int.reduceNeg, reduceIte, reduceCtorEq, Nat.reduceLT, hkept, hi, hv, iaO_map hy, hc.call, ha]
  ·rintro F _ ⟨hv, B, rfl⟩ hkept
   simp only [go_sem, Nat.reduceEqDiff, Nat.reduceAdd, Nat.reduceLeDiff, Nat.reduceMul, Nat.reduceSub, Int.reduceLT, Int.reduceLE, Int.reduceEq, Int.reduceAdd, Int.reduceNeg, reduceIte, reduceCtorEq, Nat.reduceLT] at hkept hv
   rw [List.take_length] at hv
   simp only [go_sem, Nat.reduceEqDiff, Nat.reduceAdd, Nat.reduceLeDiff, Nat.reduceMul, Nat.reduceSub, Int.reduceLT, Int.reduceLE, Int.reduceEq, Int.reduceAdd, Int.reduceNeg, reduceIte, reduceCtorEq, Nat.reduceLT, hkept, hv]
end Wp
end AM
end Go.Proofs.YtimfbnojmdnlnaaGreat
end
