/- set.Copy hands back what it was handed, in new memory. -/
import Derived.Test.YtimfbnojmdnlnaaGreatKWpF
import Derived.Test.YtimfbnojmdnlnaaGreatKM25
set_option linter.unusedVariables false
set_option linter.unusedSimpArgs false
set_option maxRecDepth 100000
namespace Go.Proofs.YtimfbnojmdnlnaaGreat
namespace AM
namespace Wp
def zCnd : List V := [.int .i64 0, .int .i64 0, .slice .nil [], .int .i64 0]
theorem still_Cnd (x : Cnd) : ∀ c ∈ encCnd x, still c := by
 cases x with
 | mk k m l =>
  intro c hc
  simp only [encCnd, encLin, List.cons_append, List.nil_append, List.mem_cons, List.not_mem_nil, or_false] at hc
  rcases hc with rfl | rfl | rfl | rfl
  ·exact ⟨rfl, rfl, rfl⟩
  ·exact ⟨rfl, rfl, rfl⟩
  ·refine ⟨rfl, rfl, ?_⟩
   simp only [nk]; split <;> rfl
  ·exact ⟨rfl, rfl, rfl⟩
theorem still_z : ∀ c ∈ zCnd, still c := by
 intro c hc
 simp only [zCnd, List.mem_cons, List.not_mem_nil, or_false] at hc
 rcases hc with rfl | rfl | rfl | rfl <;> exact ⟨rfl, rfl, rfl⟩
theorem isCells_still {cs : List V} (h : ∀ c ∈ cs, still c) : isCells cs = true := by
 induction cs with
 | nil => rfl
 | cons c cs ih => simp only [isCells, (h c (by simp)).1, ih fun c hc => h c (List.mem_cons_of_mem _ hc), Bool.and_self]
def rowsC' (l : List Cnd) (k : Nat) : List (List V) := (l.take k).map encCnd ++ List.replicate (l.length - k) zCnd
theorem rowsC_len (l : List Cnd) (k : Nat) : ∀ r ∈ rowsC' l k, r.length = 4 := by
 intro r hr
 rcases List.mem_append.1 hr with h | h
 ·obtain ⟨x, _, rfl⟩ := List.mem_map.1 h; exact len_Cnd x
 ·rw [List.eq_of_mem_replicate h]; rfl
theorem rowsC_length {l : List Cnd} {k : Nat} (h : k ≤ l.length) : (rowsC' l k).length = l.length := by simp [rowsC']; omega
theorem rowsC_still (l : List Cnd) (k : Nat) : ∀ c ∈ (rowsC' l k).flatten, still c := by
 intro c hc
 obtain ⟨r, hr, hc⟩ := List.mem_flatten.1 hc
 rcases List.mem_append.1 hr with h | h
 ·obtain ⟨x, _, rfl⟩ := List.mem_map.1 h; exact still_Cnd x c hc
 ·rw [List.eq_of_mem_replicate h] at hc; exact still_z c hc
theorem rowsC_set {l : List Cnd} {k : Nat} {x : Cnd} (h : l[k]? = some x) : (rowsC' l k).set k (encCnd x) = rowsC' l (k + 1) := by
 have hk := (List.getElem?_eq_some_iff.1 h).1
 have h1 : ((l.take k).map encCnd).length = k := by simp; omega
 have h2 : List.replicate (l.length - k) zCnd = zCnd :: List.replicate (l.length - (k + 1)) zCnd := by
  rw [show l.length - k = (l.length - (k + 1)) + 1 from by omega, List.replicate_succ]
 have h3 : (l.take (k + 1)).map encCnd = (l.take k).map encCnd ++ [encCnd x] := by
  rw [List.take_add_one, List.map_append, h]; rfl
 rw [rowsC', rowsC', List.set_append_right _ _ (by rw [h1]; exact Nat.le_refl k), h1, Nat.sub_self, h2, h3, List.set_cons_zero, List.append_assoc]
 rfl
theorem rowsC_dz (l : List Cnd) (k : Nat) : dz (some (rowsC' l k).flatten) = some (rowsC' l k).flatten := dz_isCells (isCells_still (rowsC_still l k))
theorem wl_Cnd (x : Cnd) : wtL (encCnd x) = 2 + wtL (encLin x.l) := by cases x; simp only [encCnd, wtL_append, wtL, wt]
theorem setCopy_ok : SetCopy := by
 intro q hq hw
 have hN : q.conds.length ≤ 1000000000 := by
  rw [wl_Piece] at hw
  have := wtR_len (enc := encCnd) (fun x => by rw [wl_Cnd]; omega) q.conds
  omega
 refine Sp.fnZ rfl rfl rfl rfl (by simp only [go_sem, Nat.reduceEqDiff, Nat.reduceAdd, Nat.reduceLeDiff, Nat.reduceMul, Nat.reduceSub, Int.reduceLT, Int.reduceLE, Int.reduceEq, Int.reduceAdd, Int.reduceNeg, reduceIte, reduceCtorEq, Nat.reduceLT]) (by simp only [go_sem, Nat.reduceEqDiff, Nat.reduceAdd, Nat.reduceLeDiff, Nat.reduceMul, Nat.reduceSub, Int.reduceLT, Int.reduceLE, Int.reduceEq, Int.reduceAdd, Int.reduceNeg, reduceIte, reduceCtorEq, Nat.reduceLT, implies_true]) fun S => ?_
 simp only [a86, c86, go_sem, Nat.reduceEqDiff, Nat.reduceAdd, Nat.reduceLeDiff, Nat.reduceMul, Nat.reduceSub, Int.reduceLT, Int.reduceLE, Int.reduceEq, Int.reduceAdd, Int.reduceNeg, reduceIte, reduceCtorEq, Nat.reduceLT]
 rw [Mk_int (k := q.conds.length) rfl (by decide) (by omega) (by omega)]
 simp only [go_sem, Nat.reduceEqDiff, Nat.reduceAdd, Nat.reduceLeDiff, Nat.reduceMul, Nat.reduceSub, Int.reduceLT, Int.reduceLE, Int.reduceEq, Int.reduceAdd, Int.reduceNeg, reduceIte, reduceCtorEq, Nat.reduceLT]
 refine Run_range q.conds.length [3, 9] [] (fun k vs S' => ∃ C, S' = ⟨(rowsC' q.conds k).flatten :: C, none⟩ :: S) (by omega) (by simp only [go_sem, Nat.reduceEqDiff, Nat.reduceAdd, Nat.reduceLeDiff, Nat.reduceMul, Nat.reduceSub, Int.reduceLT, Int.reduceLE, Int.reduceEq, Int.reduceAdd, Int.reduceNeg, reduceIte, reduceCtorEq, Nat.reduceLT]) (by simp only [go_sem, Nat.reduceEqDiff, Nat.reduceAdd, Nat.reduceLeDiff, Nat.reduceMul, Nat.reduceSub, Int.reduceLT, Int.reduceLE, Int.reduceEq, Int.reduceAdd, Int.reduceNeg, reduceIte, reduceCtorEq, Nat.reduceLT]) rfl rfl rfl rfl (by simp only [go_sem, Nat.reduceEqDiff, Nat.reduceAdd, Nat.reduceLeDiff, Nat.reduceMul, Nat.reduceSub, Int.reduceLT, Int.reduceLE, Int.reduceEq, Int.reduceAdd, Int.reduceNeg, reduceIte, reduceCtorEq, Nat.reduceLT]) ⟨[], ?_⟩ ?_ ?_
 ·simp [rowsC', rep, zCnd]
 ·rintro k F _ hk ⟨C, rfl⟩ hi hkept
  simp only [go_sem, Nat.reduceEqDiff, Nat.reduceAdd, Nat.reduceLeDiff, Nat.reduceMul, Nat.reduceSub, Int.reduceLT, Int.reduceLE, Int.reduceEq, Int.reduceAdd, Int.reduceNeg, reduceIte, reduceCtorEq, Nat.reduceLT] at hkept
  obtain ⟨x, hx⟩ : ∃ y, q.conds[k]? = some y := ⟨q.conds[k], List.getElem?_eq_getElem hk⟩
  have hm := List.mem_of_getElem? hx
  have hox := (hq.s x hm).l
  have hz : x.l.n = true → x.l.c.map encI = [] := fun hn => by rw [hox.z hn]; rfl
  have hcl : x.l.c.length ≤ 1000000000 := by
   rw [wl_Piece] at hw
   have h1 := wt_part (enc := encCnd) hm
   rw [wl_Cnd] at h1
   exact sm_lin (by omega)
  simp only [go_sem, Nat.reduceEqDiff, Nat.reduceAdd, Nat.reduceLeDiff, Nat.reduceMul, Nat.reduceSub, Int.reduceLT, Int.reduceLE, Int.reduceEq, Int.reduceAdd, Int.reduceNeg, reduceIte, reduceCtorEq, Nat.reduceLT, hkept, hi, iaO_map hx, (clone_int x.l.n x.l.c hcl).call, strip_cloneI hz, badd_var]
  rw [iaO_bsl hk]
  have e4 : [V.int IntKind.i64 x.kind, V.int IntKind.i64 x.m, V.slice (nk x.l.n) (x.l.c.map encI), V.int IntKind.i64 x.l.k] = encCnd x := by cases x; rfl
  have hset : setAt (rowsC' q.conds k).flatten (k * 4) (encCnd x) = (rowsC' q.conds (k + 1)).flatten := by
   rw [setAt_rows (rowsC_len _ _) (by rw [rowsC_length (by omega)]; exact hk) (len_Cnd x), rowsC_set hx]
  have hle : k * 4 + 4 ≤ (rowsC' q.conds k).flatten.length := by
   rw [rows_len (rowsC_len _ _), rowsC_length (by omega)]; omega
  simp only [go_sem, Nat.reduceEqDiff, Nat.reduceAdd, Nat.reduceLeDiff, Nat.reduceMul, Nat.reduceSub, Int.reduceLT, Int.reduceLE, Int.reduceEq, Int.reduceAdd, Int.reduceNeg, reduceIte, reduceCtorEq, Nat.reduceLT, rowsC_dz, e4, hset, hle]
 ·rintro F _ ⟨C, rfl⟩ hkept
  simp only [go_sem, Nat.reduceEqDiff, Nat.reduceAdd, Nat.reduceLeDiff, Nat.reduceMul, Nat.reduceSub, Int.reduceLT, Int.reduceLE, Int.reduceEq, Int.reduceAdd, Int.reduceNeg, reduceIte, reduceCtorEq, Nat.reduceLT] at hkept
  simp only [go_sem, Nat.reduceEqDiff, Nat.reduceAdd, Nat.reduceLeDiff, Nat.reduceMul, Nat.reduceSub, Int.reduceLT, Int.reduceLE, Int.reduceEq, Int.reduceAdd, Int.reduceNeg, reduceIte, reduceCtorEq, Nat.reduceLT, hkept]
  have hl : (rowsC' q.conds q.conds.length).length = q.conds.length := rowsC_length (Nat.le_refl _)
  have hfz := frz_rows (S := (⟨(rowsC' q.conds q.conds.length).flatten :: C, none⟩ :: S : St)) (l := S.length) (i := 0) (e := 204) (lo := S.length) (k := 2) (Nat.le_refl _) (by simp only [go_sem, Nat.reduceEqDiff, Nat.reduceAdd, Nat.reduceLeDiff, Nat.reduceMul, Nat.reduceSub, Int.reduceLT, Int.reduceLE, Int.reduceEq, Int.reduceAdd, Int.reduceNeg, reduceIte, reduceCtorEq, Nat.reduceLT, rowsC_dz]) (by decide) (rowsC_len q.conds q.conds.length) (rowsC_still q.conds _)
  rw [hl] at hfz
  rw [FinZR_frz (R := S) (by simp [low]) hfz (by simp [low])]
  have : rowsC' q.conds q.conds.length = q.conds.map encCnd := by simp [rowsC']
  rw [this]
  exact ⟨rfl, rfl⟩
end Wp
end AM
end Go.Proofs.YtimfbnojmdnlnaaGreat
