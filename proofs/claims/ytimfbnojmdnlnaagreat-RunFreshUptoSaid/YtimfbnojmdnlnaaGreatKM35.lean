/- Rows of numbers in boxes of a level, and how they are read out; run.Fresh; The reference's Fresh. -/
import Derived.Test.YtimfbnojmdnlnaaGreatKSeE
import Derived.Test.YtimfbnojmdnlnaaGreatKM33
import Derived.Test.YtimfbnojmdnlnaaGreatKWpF
set_option linter.unusedVariables false
set_option linter.unusedSimpArgs false
set_option maxRecDepth 100000
section
namespace Go.Proofs.YtimfbnojmdnlnaaGreat
namespace AM
namespace Wp
def ints (r : List Int) : List V := r.map (V.int .i64)
theorem ints_flat (r : List Int) : (r.map encI).flatten = ints r := by
 induction r with
 | nil => rfl
 | cons x r ih => simp only [List.map_cons, List.flatten_cons, ih, ints]; rfl
theorem dz_def {cs : List V} (h : ∀ c ∈ cs, isUndef c = false) : dz (some cs) = some cs := by
 cases cs with
 | nil => rfl
 | cons c cs =>
  have := h c (by simp)
  simp [dz, this]
@[go_sem] theorem dz_ints (r : List Int) : dz (some (ints r)) = some (ints r) := dz_def fun c hc => by
 simp only [ints, List.mem_map] at hc
 obtain ⟨x, _, rfl⟩ := hc
 rfl
theorem ints_len (r : List Int) : (ints r).length = r.length := by simp [ints]
inductive RowsIn (o L : Nat) (B : List (List V)) : List V → List (List Int) → Prop
 | nil : RowsIn o L B [] []
 | cons {cs : List V} {r : List Int} {rs : List (List Int)} (i : Nat) (h : B[i]? = some (ints r)) (hs : RowsIn o L B cs rs) : RowsIn o L B (.bsl L (i + o) 0 r.length 1 3 :: cs) (r :: rs)
namespace RowsIn
variable {o L : Nat} {B C : List (List V)} {cs : List V} {rs : List (List Int)}
theorem len (h : RowsIn o L B cs rs) : cs.length = rs.length := by induction h with | nil => rfl | cons i h hs ih => simp [ih]
theorem mono (h : RowsIn o L B cs rs) : RowsIn o L (B ++ C) cs rs := by
 induction h with
 | nil => exact .nil
 | cons i h hs ih =>
  refine .cons i ?_ ih
  rw [List.getElem?_append_left (List.getElem?_eq_some_iff.1 h).1]; exact h
theorem snoc {i : Nat} {r : List Int} (h : RowsIn o L B cs rs) (hi : B[i]? = some (ints r)) : RowsIn o L B (cs ++ [.bsl L (i + o) 0 r.length 1 3]) (rs ++ [r]) := by
 induction h with
 | nil => exact .cons i hi .nil
 | cons j hj hs ih => exact .cons j hj ih
theorem isBsl (h : RowsIn o L B cs rs) : ∀ c ∈ cs, ∃ l i p n m e, c = V.bsl l i p n m e := by
 induction h with
 | nil => intro c hc; simp at hc
 | cons j hj hs ih =>
  intro c hc
  rcases List.mem_cons.1 hc with rfl | hc
  ·exact ⟨_, _, _, _, _, _, rfl⟩
  ·exact ih c hc
theorem undef (h : RowsIn o L B cs rs) : ∀ c ∈ cs, isUndef c = false := by
 intro c hc
 obtain ⟨_, _, _, _, _, _, rfl⟩ := h.isBsl c hc
 rfl
theorem set {j : Nat} {ds X : List V} {es : List (List Int)} (h : RowsIn o L B cs rs) (hd : RowsIn o L B ds es) (hn : ds ≠ []) (hj : B[j]? = some ds) : RowsIn o L (B.set j X) cs rs := by
 induction h with
 | nil => exact .nil
 | @cons cs r rs i hi hs ih =>
  refine .cons i ?_ ih
  rw [List.getElem?_set_ne, hi]
  rintro rfl
  rw [hi] at hj
  cases hd with
  | nil => exact hn rfl
  | cons k hk hs' =>
   cases r with
   | nil => simp [ints] at hj
   | cons x r => simp [ints] at hj
theorem low (h : RowsIn o L B cs rs) : ∀ {n : Nat}, L < n → lowL n cs = true := by
 intro n hn
 induction h with
 | nil => rfl
 | cons i hi hs ih => simp only [lowL, AM.low, ih, hn, decide_true, Bool.and_self]
theorem strip (h : RowsIn o L B cs rs) : cs.map AM.strip = cs := by
 induction h with
 | nil => rfl
 | cons i hi hs ih => simp only [List.map_cons, ih, AM.strip]
theorem own (h : RowsIn o L B cs rs) : noOwn cs = true := by
 induction h with
 | nil => rfl
 | cons i hi hs ih => simp only [noOwn, List.all_cons, Bool.true_and] at ih ⊢; exact ih
theorem frz {S : St} {lo k : Nat} (hl : lo ≤ L) (h : RowsIn o L B cs rs) (hb : ∀ (i : Nat) (r : List Int), B[i]? = some (ints r) → getBox S L (i + o) = some (ints r)) :
  cs.mapM (AM.frz S lo (k + 2)) = some (rs.map fun r => V.slice .shut (r.map encI)) := by
 induction h with
 | nil => rfl
 | @cons cs r rs i hi hs ih =>
  have h1 : AM.frz S lo (k + 2) (.bsl L (i + o) 0 (r.map encI).length 1 3) = some (.slice .shut (r.map encI)) := frz_rows hl (by rw [ints_flat]; exact hb i r hi) (by decide) (fun x hx => by
    simp only [List.mem_map] at hx
    obtain ⟨y, _, rfl⟩ := hx
    rfl) (fun c hc => by
    rw [ints_flat] at hc
    simp only [ints, List.mem_map] at hc
    obtain ⟨y, _, rfl⟩ := hc
    exact ⟨rfl, rfl, rfl⟩)
  rw [List.length_map] at h1
  rw [List.mapM_cons, h1, ih]
  rfl
end RowsIn
theorem chunk_one : ∀ (cs : List V), chunk 1 cs.length cs = cs.map fun c => [c] := by
 intro cs
 apply List.ext_getElem?
 intro j
 simp only [chunk, Nat.mul_one]
 rw [List.getElem?_map, List.getElem?_map]
 rcases Nat.lt_or_ge j cs.length with hj | hj
 ·rw [List.getElem?_range hj, List.getElem?_eq_getElem hj]
  simp only [Option.map_some]
  rw [← List.getElem_cons_drop hj]
  rfl
 ·rw [List.getElem?_eq_none (by simpa using hj), List.getElem?_eq_none hj]; rfl
theorem frz_mem {S : St} {lo k o L i : Nat} {B : List (List V)} {cs : List V} {rs : List (List Int)} (hl : lo ≤ L) (h : RowsIn o L B cs rs) (hi : getBox S L i = some cs) (hb : ∀ (i : Nat) (r : List Int), B[i]? = some (ints r) → getBox S L (i + o) = some (ints r)) :
  AM.frz S lo (k + 3) (.bsl L i 0 cs.length 1 27) = some (.slice .shut (rs.map fun r => encMem ⟨false, r⟩)) := by
 have h1 := h.frz (k := k) hl hb
 have hc : cutL cs 0 (cs.length * 1) = some cs := by simp [cutL]
 rw [AM.frz, if_neg (by omega)]
 split
 ·rename_i h0
  have hr : rs = [] := List.eq_nil_of_length_eq_zero (by rw [← h.len]; exact h0)
  subst hr
  rfl
 ·rw [hi, Option.bind_some, hc, Option.bind_some, h1, Option.bind_some]
  have hlow : lowL 0 (rs.map fun r => V.slice .shut (r.map encI)) = true := by
   clear h1 h hi hb hc
   induction rs with
   | nil => rfl
   | cons r rs ih => simp only [List.map_cons, lowL, AM.low, ih, Bool.and_self]
  rw [if_pos ⟨by decide, hlow⟩]
  have h2 := chunk_one (rs.map fun r => V.slice .shut (r.map encI))
  rw [List.length_map, ← h.len] at h2
  rw [h2, List.map_map]
  rfl
def freshV (s : Int) (a k : Nat) : Int := wi ((wi (wi (s + wi (7919 * (a : Int))) + wi (104729 * (k : Int)))).tmod 2001 - 1000)
def freshRow (s : Int) (a n : Nat) : List Int := (List.range n).map (freshV s a)
def freshFrom (s : Int) : Nat → List Int → List (List Int)
 | _, [] => []
 | a, n :: l => freshRow s a n.toNat :: freshFrom s (a + 1) l
theorem freshFrom_snoc {s n : Int} : ∀ {l : List Int} {a : Nat}, freshFrom s a (l ++ [n]) = freshFrom s a l ++ [freshRow s (a + l.length) n.toNat]
 | [], a => rfl
 | m :: l, a => by
  simp only [List.cons_append, freshFrom, freshFrom_snoc, List.length_cons]
  rw [show a + 1 + l.length = a + (l.length + 1) from by omega]
theorem freshFrom_len {s : Int} : ∀ {l : List Int} {a : Nat}, (freshFrom s a l).length = l.length
 | [], _ => rfl
 | n :: l, a => by simp [freshFrom, freshFrom_len]
def partRow (s : Int) (a n k : Nat) : List Int := (List.range n).map fun j => if j < k then freshV s a j else 0
theorem partRow_0 {s : Int} {a n : Nat} : ints (partRow s a n 0) = rep n [.int .i64 0] := by
 simp only [partRow, ints, rep, List.map_map]
 apply List.ext_getElem?
 intro j
 have : (List.replicate n [V.int .i64 0]).flatten = List.replicate n (V.int .i64 0) := by
  induction n with
  | zero => rfl
  | succ n ih => rw [List.replicate_succ, List.flatten_cons, ih]; rfl
 rw [this, List.getElem?_map, List.getElem?_replicate]
 split
 ·rename_i h; rw [List.getElem?_range h]; simp
 ·rename_i h; rw [List.getElem?_eq_none (by simpa using h)]; rfl
theorem partRow_n {s : Int} {a n : Nat} : partRow s a n n = freshRow s a n := by
 unfold partRow freshRow
 exact List.map_congr_left fun j hj => by rw [if_pos (List.mem_range.1 hj)]
theorem partRow_len {s : Int} {a n k : Nat} : (partRow s a n k).length = n := by simp [partRow]
theorem partRow_set {s : Int} {a n k : Nat} (hk : k < n) : (partRow s a n k).set k (freshV s a k) = partRow s a n (k + 1) := by
 apply List.ext_getElem?
 intro j
 simp only [partRow, List.getElem?_set, List.getElem?_map, List.length_map, List.length_range]
 by_cases hj : k = j
 ·subst hj; simp [hk]
 ·rw [if_neg hj]
  rcases Nat.lt_or_ge j n with h | h
  ·rw [List.getElem?_range h]
   simp only [Option.map_some]
   congr 1
   by_cases h1 : j < k
   ·rw [if_pos h1, if_pos (by omega)]
   ·rw [if_neg h1, if_neg (by omega)]
  ·rw [List.getElem?_eq_none (by simpa using h)]; rfl
theorem ints_setAt {r : List Int} {k : Nat} {x : Int} (hk : k < r.length) : setAt (ints r) k [.int .i64 x] = ints (r.set k x) := by
 simp only [setAt, ints, List.length_singleton, List.map_set]
 rw [List.set_eq_take_append_cons_drop, if_pos (by simpa using hk)]
 simp
theorem at_one {cs : List V} {k : Nat} {z w : V} {m : Nat} (h : cs.length = k) : setAt (cs ++ List.replicate (m + 1) z) k [w] = cs ++ w :: List.replicate m z := by
 subst h
 simp only [setAt, List.length_singleton]
 rw [List.take_left, List.drop_append]
 simp [List.replicate_succ]
theorem cut_one {cs ds : List V} {k : Nat} {w : V} (h : cs.length = k) (hw : strip w = w) : cutV (cs ++ w :: ds) k 1 false = some w := by
 subst h
 simp only [cutV, cutL]
 rw [if_pos (by simp)]
 simp [ofCells, hw]
end Wp
end AM
end Go.Proofs.YtimfbnojmdnlnaaGreat
end
section
namespace Go.Proofs.YtimfbnojmdnlnaaGreat
namespace AM
namespace Wp
theorem rep_one {k : Nat} {z : V} : rep k [z] = List.replicate k z := by
 induction k with
 | zero => rfl
 | succ n ih => simp only [rep] at ih ⊢; rw [List.replicate_succ, List.flatten_cons, ih]; rfl
def memV (c : Bool) (l : List (List Int)) : V := if c = true then .slice .shut (l.map fun r => encMem ⟨false, r⟩) else .slice .nil []
@[go_sem] theorem strip_memV {c : Bool} {l : List (List Int)} : strip (memV c l) = memV c l := by cases c <;> rfl
@[go_sem] theorem low_memV {c : Bool} {l : List (List Int)} {n : Nat} : low n (memV c l) = true := by cases c <;> rfl
@[go_sem] theorem cp_memV {c : Bool} {l : List (List Int)} : cp (memV c l) = some (memV c l) := by cases c <;> rfl
@[go_sem] theorem tame_memV {c : Bool} {l : List (List Int)} : tame (memV c l) = true := by cases c <;> rfl
def cellsL (p : Prg) (ps : List Int) : List Int := (shapesOf ps p.arrays).map (·.cells)
theorem fresh_ok {p : Prg} (hp : OkPrg p) {b : Bool} {ps : List Int} (hpl : ps.length ≤ LIM) (s : Int) :
  Sp theEnv 33 [.agg (encPrg p), .slice (nk b) (ps.map encI), .int .i64 s] (.tup [memV (decide (askErr p ps = 0)) (freshFrom (modI s 1000003) 0 (cellsL p ps)), .int .i64 (askErr p ps)]) := by
 refine Sp.fnZ rfl rfl rfl rfl (by simp only [go_sem, Nat.reduceEqDiff, Nat.reduceAdd, Nat.reduceLeDiff, Nat.reduceMul, Nat.reduceSub, Int.reduceLT, Int.reduceLE, Int.reduceEq, Int.reduceAdd, Int.reduceNeg, reduceIte, reduceCtorEq, Nat.reduceLT]) (by intro n; simp only [go_sem, Nat.reduceEqDiff, Nat.reduceAdd, Nat.reduceLeDiff, Nat.reduceMul, Nat.reduceSub, Int.reduceLT, Int.reduceLE, Int.reduceEq, Int.reduceAdd, Int.reduceNeg, reduceIte, reduceCtorEq, Nat.reduceLT]) fun S => ?_
 simp only [a33, c33, go_sem, Nat.reduceEqDiff, Nat.reduceAdd, Nat.reduceLeDiff, Nat.reduceMul, Nat.reduceSub, Int.reduceLT, Int.reduceLE, Int.reduceEq, Int.reduceAdd, Int.reduceNeg, reduceIte, reduceCtorEq, Nat.reduceLT, (asked_ok hp hpl).call]
 rw [Run_if]
 simp only [go_sem, Nat.reduceEqDiff, Nat.reduceAdd, Nat.reduceLeDiff, Nat.reduceMul, Nat.reduceSub, Int.reduceLT, Int.reduceLE, Int.reduceEq, Int.reduceAdd, Int.reduceNeg, reduceIte, reduceCtorEq, Nat.reduceLT]
 by_cases he : askErr p ps = 0
 ·obtain ⟨hc, hl, _, hsh, _⟩ := ask_in he
  have hag := cells_agree hc hsh
  have hN : (shapesOf ps p.arrays).length ≤ 8 := by simp [shapesOf]; exact (chk_head hc).2.1
  simp only [he, shapesV_0, go_sem, Nat.reduceEqDiff, Nat.reduceAdd, Nat.reduceLeDiff, Nat.reduceMul, Nat.reduceSub, Int.reduceLT, Int.reduceLE, Int.reduceEq, Int.reduceAdd, Int.reduceNeg, reduceIte, reduceCtorEq, Nat.reduceLT, (mod_ok s).call]
  rw [Mk_int (k := (shapesOf ps p.arrays).length) rfl (by decide) (by omega) (by omega)]
  simp only [go_sem, Nat.reduceEqDiff, Nat.reduceAdd, Nat.reduceLeDiff, Nat.reduceMul, Nat.reduceSub, Int.reduceLT, Int.reduceLE, Int.reduceEq, Int.reduceAdd, Int.reduceNeg, reduceIte, reduceCtorEq, Nat.reduceLT]
  have hcl : (cellsL p ps).length = (shapesOf ps p.arrays).length := by simp [cellsL]
  generalize hs' : modI s 1000003 = s0
  rw [rep_one]
  refine Run_range (shapesOf ps p.arrays).length [2, 10, 31] [] (fun k _ S' => ∃ (B : List (List V)) (cs : List V), S' = ⟨encPrg p :: (cs ++ List.replicate ((shapesOf ps p.arrays).length - k) (.slice .nil [])) :: B, none⟩ :: S ∧ RowsIn 2 S.length B cs (freshFrom s0 0 ((cellsL p ps).take k))) (by omega) (by simp only [go_sem, Nat.reduceEqDiff, Nat.reduceAdd, Nat.reduceLeDiff, Nat.reduceMul, Nat.reduceSub, Int.reduceLT, Int.reduceLE, Int.reduceEq, Int.reduceAdd, Int.reduceNeg, reduceIte, reduceCtorEq, Nat.reduceLT]) (by simp only [go_sem, Nat.reduceEqDiff, Nat.reduceAdd, Nat.reduceLeDiff, Nat.reduceMul, Nat.reduceSub, Int.reduceLT, Int.reduceLE, Int.reduceEq, Int.reduceAdd, Int.reduceNeg, reduceIte, reduceCtorEq, Nat.reduceLT]) rfl rfl rfl rfl (by simp only [go_sem, Nat.reduceEqDiff, Nat.reduceAdd, Nat.reduceLeDiff, Nat.reduceMul, Nat.reduceSub, Int.reduceLT, Int.reduceLE, Int.reduceEq, Int.reduceAdd, Int.reduceNeg, reduceIte, reduceCtorEq, Nat.reduceLT]) ⟨[], [], by rw [List.nil_append, Nat.sub_zero], .nil⟩ ?_ ?_
  ·rintro k F _ hk ⟨B, cs, rfl, hrows⟩ hi hkept
   simp only [go_sem, Nat.reduceEqDiff, Nat.reduceAdd, Nat.reduceLeDiff, Nat.reduceMul, Nat.reduceSub, Int.reduceLT, Int.reduceLE, Int.reduceEq, Int.reduceAdd, Int.reduceNeg, reduceIte, reduceCtorEq, Nat.reduceLT] at hkept
   obtain ⟨x, hx⟩ : ∃ x, (shapesOf ps p.arrays)[k]? = some x := ⟨(shapesOf ps p.arrays)[k], List.getElem?_eq_getElem hk⟩
   have hcx : (cellsL p ps)[k]? = some x.cells := by simp [cellsL, hx]
   have hrng : 0 ≤ x.cells ∧ x.cells ≤ 4096 := hag.2 _ (by rw [← hag.1]; exact List.mem_of_getElem? hcx)
   have hlen : cs.length = k := by rw [hrows.len, freshFrom_len]; simp; omega
   obtain ⟨m, hm⟩ : ∃ m, (shapesOf ps p.arrays).length - k = m + 1 := ⟨(shapesOf ps p.arrays).length - k - 1, by omega⟩
   have hm' : (shapesOf ps p.arrays).length - (k + 1) = m := by omega
   obtain ⟨n, hn⟩ : ∃ n : Nat, x.cells = (n : Int) := ⟨x.cells.toNat, by omega⟩
   have hia : ∀ kk : IntKind, iaO 1 (V.bsl S.length 1 0 (shapesOf ps p.arrays).length 1 27) (.int kk (k : Int)) = some (.ptr S.length 1 k) := fun kk => by
    rw [iaO_bsl hk]; simp
   rw [hm, hm']
   have hcut := fun w (hw : strip w = w) => cut_one (cs := cs) (ds := List.replicate m (V.slice .nil [])) (k := k) hlen hw
   have hset := fun w => at_one (cs := cs) (z := V.slice .nil []) (w := w) (m := m) hlen
   have hu : ∀ c ∈ cs ++ List.replicate (m + 1) (V.slice .nil []), isUndef c = false := by
    intro c hc
    rcases List.mem_append.1 hc with hc | hc
    ·exact hrows.undef c hc
    ·rw [List.eq_of_mem_replicate hc]; rfl
   have hd1 := dz_def hu
   have hle : k + 1 ≤ (cs ++ List.replicate (m + 1) (V.slice .nil [])).length := by simp; omega
   have hrem : ∀ y : Int, bin .rem 0 (.int .i64 y) (.int .i64 2001) = some (.int .i64 (y.tmod 2001)) := fun y => bin_rem (by decide)
   simp only [go_sem, Nat.reduceEqDiff, Nat.reduceAdd, Nat.reduceLeDiff, Nat.reduceMul, Nat.reduceSub, Int.reduceLT, Int.reduceLE, Int.reduceEq, Int.reduceAdd, Int.reduceNeg, reduceIte, reduceCtorEq, Nat.reduceLT, hkept, hi, iaO_map hx]
   rw [Mk_int (k := n) hn (by decide) (by omega) (by omega)]
   simp only [go_sem, Nat.reduceEqDiff, Nat.reduceAdd, Nat.reduceLeDiff, Nat.reduceMul, Nat.reduceSub, Int.reduceLT, Int.reduceLE, Int.reduceEq, Int.reduceAdd, Int.reduceNeg, reduceIte, reduceCtorEq, Nat.reduceLT, hkept, hia, hd1, hle, hset, Nat.lt_succ_self]
   generalize hw : V.bsl S.length (blen B + 1 + 1 + 1) 0 n 1 3 = w
   have hsw : strip w = w := by rw [← hw]; rfl
   have hd2 : dz (some (cs ++ w :: List.replicate m (V.slice .nil []))) = some (cs ++ w :: List.replicate m (V.slice .nil [])) := dz_def (by
    intro c hc
    rcases List.mem_append.1 hc with hc | hc
    ·exact hrows.undef c hc
    ·rcases List.mem_cons.1 hc with hc | hc
     ·subst hc; rw [← hw]; rfl
     ·rw [List.eq_of_mem_replicate hc]; rfl)
   simp only [go_sem, Nat.reduceEqDiff, Nat.reduceAdd, Nat.reduceLeDiff, Nat.reduceMul, Nat.reduceSub, Int.reduceLT, Int.reduceLE, Int.reduceEq, Int.reduceAdd, Int.reduceNeg, reduceIte, reduceCtorEq, Nat.reduceLT, hkept, hia, hd2, hcut w hsw]
   rw [← hw]
   simp only [go_sem, Nat.reduceEqDiff, Nat.reduceAdd, Nat.reduceLeDiff, Nat.reduceMul, Nat.reduceSub, Int.reduceLT, Int.reduceLE, Int.reduceEq, Int.reduceAdd, Int.reduceNeg, reduceIte, reduceCtorEq, Nat.reduceLT, hkept]
   rw [hw, ← partRow_0 (s := s0) (a := k)]
   refine Run_range n [2, 10, 11, 31, 33] [] (fun k3 _ S' => S' = ⟨encPrg p :: (cs ++ w :: List.replicate m (.slice .nil [])) :: (B ++ [encShape x, ints (partRow s0 k n k3)]), none⟩ :: S) (by omega) (by simp only [go_sem, Nat.reduceEqDiff, Nat.reduceAdd, Nat.reduceLeDiff, Nat.reduceMul, Nat.reduceSub, Int.reduceLT, Int.reduceLE, Int.reduceEq, Int.reduceAdd, Int.reduceNeg, reduceIte, reduceCtorEq, Nat.reduceLT]) (by simp only [go_sem, Nat.reduceEqDiff, Nat.reduceAdd, Nat.reduceLeDiff, Nat.reduceMul, Nat.reduceSub, Int.reduceLT, Int.reduceLE, Int.reduceEq, Int.reduceAdd, Int.reduceNeg, reduceIte, reduceCtorEq, Nat.reduceLT]) rfl rfl rfl rfl (by simp only [go_sem, Nat.reduceEqDiff, Nat.reduceAdd, Nat.reduceLeDiff, Nat.reduceMul, Nat.reduceSub, Int.reduceLT, Int.reduceLE, Int.reduceEq, Int.reduceAdd, Int.reduceNeg, reduceIte, reduceCtorEq, Nat.reduceLT, hkept, hi]) rfl ?_ ?_
   ·rintro k3 F3 _ hk3 rfl hi3 hkept3
    simp only [go_sem, Nat.reduceEqDiff, Nat.reduceAdd, Nat.reduceLeDiff, Nat.reduceMul, Nat.reduceSub, Int.reduceLT, Int.reduceLE, Int.reduceEq, Int.reduceAdd, Int.reduceNeg, reduceIte, reduceCtorEq, Nat.reduceLT, hkept, hi] at hkept3
    have hia3 : iaO 1 w (.int .i64 (k3 : Int)) = some (.ptr S.length (blen B + 1 + 1 + 1) k3) := by
     rw [← hw, iaO_bsl hk3]; simp
    have hp1 : k3 < (partRow s0 k n k3).length := by rw [partRow_len]; exact hk3
    have hst : ∀ y, setAt (ints (partRow s0 k n k3)) k3 [.int .i64 y] = ints ((partRow s0 k n k3).set k3 y) := fun y => ints_setAt hp1
    have hle3 : k3 + 1 ≤ (ints (partRow s0 k n k3)).length := by rw [ints_len]; exact hp1
    rw [← partRow_set hk3]
    simp only [go_sem, Nat.reduceEqDiff, Nat.reduceAdd, Nat.reduceLeDiff, Nat.reduceMul, Nat.reduceSub, Int.reduceLT, Int.reduceLE, Int.reduceEq, Int.reduceAdd, Int.reduceNeg, reduceIte, reduceCtorEq, Nat.reduceLT, hkept3, hi3, hia, hd2, hcut w hsw, hia3, hrem, hst, hle3, freshV, wi]
   ·rintro F3 _ rfl hkept3
    simp only [go_sem, Nat.reduceEqDiff, Nat.reduceAdd, Nat.reduceLeDiff, Nat.reduceMul, Nat.reduceSub, Int.reduceLT, Int.reduceLE, Int.reduceEq, Int.reduceAdd, Int.reduceNeg, reduceIte, reduceCtorEq, Nat.reduceLT, hkept, hi] at hkept3
    rw [partRow_n]
    simp only [go_sem, Nat.reduceEqDiff, Nat.reduceAdd, Nat.reduceLeDiff, Nat.reduceMul, Nat.reduceSub, Int.reduceLT, Int.reduceLE, Int.reduceEq, Int.reduceAdd, Int.reduceNeg, reduceIte, reduceCtorEq, Nat.reduceLT, hkept3]
    have hrl : (freshRow s0 k n).length = n := by simp [freshRow]
    have hget : (B ++ [encShape x, ints (freshRow s0 k n)])[blen B + 1]? = some (ints (freshRow s0 k n)) := by
     rw [List.getElem?_append_right (by simp [blen])]; simp [blen]
    refine ⟨B ++ [encShape x, ints (freshRow s0 k n)], cs ++ [w], ⟨by simp, rfl⟩, ?_⟩
    have hr2 := (hrows.mono (C := [encShape x, ints (freshRow s0 k n)])).snoc (i := blen B + 1) hget
    rw [hrl] at hr2
    rw [take_snoc' hcx, freshFrom_snoc, hn, ← hw]
    have hk0 : 0 + ((cellsL p ps).take k).length = k := by simp; omega
    rw [hk0]
    exact hr2
  ·rintro F _ ⟨B, cs, rfl, hrows⟩ hkept
   simp only [go_sem, Nat.reduceEqDiff, Nat.reduceAdd, Nat.reduceLeDiff, Nat.reduceMul, Nat.reduceSub, Int.reduceLT, Int.reduceLE, Int.reduceEq, Int.reduceAdd, Int.reduceNeg, reduceIte, reduceCtorEq, Nat.reduceLT] at hkept
   simp only [go_sem, Nat.reduceEqDiff, Nat.reduceAdd, Nat.reduceLeDiff, Nat.reduceMul, Nat.reduceSub, Int.reduceLT, Int.reduceLE, Int.reduceEq, Int.reduceAdd, Int.reduceNeg, reduceIte, reduceCtorEq, Nat.reduceLT, hkept, Nat.sub_self, List.replicate_zero, List.append_nil]
   rw [← hcl, List.take_length] at hrows
   have hlen : cs.length = (shapesOf ps p.arrays).length := by rw [hrows.len, freshFrom_len, hcl]
   have hz := frz_mem (S := ⟨encPrg p :: cs :: B, none⟩ :: S) (lo := S.length) (k := 0) (i := 1) (Nat.le_refl _) hrows (by
    simp only [go_sem, Nat.reduceEqDiff, Nat.reduceAdd, Nat.reduceLeDiff, Nat.reduceMul, Nat.reduceSub, Int.reduceLT, Int.reduceLE, Int.reduceEq, Int.reduceAdd, Int.reduceNeg, reduceIte, reduceCtorEq, Nat.reduceLT, dz_def hrows.undef]) (fun i r hi => by
    simp only [go_sem, Nat.reduceEqDiff, Nat.reduceAdd, Nat.reduceLeDiff, Nat.reduceMul, Nat.reduceSub, Int.reduceLT, Int.reduceLE, Int.reduceEq, Int.reduceAdd, Int.reduceNeg, reduceIte, reduceCtorEq, Nat.reduceLT, bget, hi])
   rw [hlen] at hz
   have hz' : AM.frz (⟨encPrg p :: cs :: B, none⟩ :: S) S.length 4 (.tup [.bsl S.length 1 0 (shapesOf ps p.arrays).length 1 27, .int .i64 0]) = some (.tup [memV true (freshFrom s0 0 (cellsL p ps)), .int .i64 0]) := by
    simp only [AM.frz, List.mapM_cons, List.mapM_nil] at hz ⊢
    rw [hz]
    rfl
   rw [FinZR_frz (by simp [low, lowL]) hz' (by simp only [go_sem, Nat.reduceEqDiff, Nat.reduceAdd, Nat.reduceLeDiff, Nat.reduceMul, Nat.reduceSub, Int.reduceLT, Int.reduceLE, Int.reduceEq, Int.reduceAdd, Int.reduceNeg, reduceIte, reduceCtorEq, Nat.reduceLT])]
   exact ⟨rfl, rfl⟩
 ·rw [shapesV_n he]
  simp only [he, go_sem, Nat.reduceEqDiff, Nat.reduceAdd, Nat.reduceLeDiff, Nat.reduceMul, Nat.reduceSub, Int.reduceLT, Int.reduceLE, Int.reduceEq, Int.reduceAdd, Int.reduceNeg, reduceIte, reduceCtorEq, Nat.reduceLT, decide_false]
  rw [FinZR_low (by simp only [go_sem, Nat.reduceEqDiff, Nat.reduceAdd, Nat.reduceLeDiff, Nat.reduceMul, Nat.reduceSub, Int.reduceLT, Int.reduceLE, Int.reduceEq, Int.reduceAdd, Int.reduceNeg, reduceIte, reduceCtorEq, Nat.reduceLT])]
  exact ⟨rfl, rfl⟩
end Wp
end AM
end Go.Proofs.YtimfbnojmdnlnaaGreat
end
section
namespace Go.Proofs.YtimfbnojmdnlnaaGreat
namespace AM
namespace Wp
section
variable {E : Env} {ks : List KI} {F : Fr} {S R : St} {Q : Ex → Fr → St → Prop} {bs : List Blk} {d : Option Nat} {B : List (List V)} {lp : Option Lp}
theorem Rowr1 {e : Nat} {x : Opd} {w : V} (hx : cellsOf (strip (evO F x)) = some [w]) (hl : low (R.length + 1) w = true) :
  Wk E (.s (.seq ⟨d, .rowr e 1 [x], none⟩ :: bs)) ks F (⟨B, lp⟩ :: R) Q = Wk E (.s bs) ks (putO F d (.bsl R.length (blen B) 0 1 1 e)) (⟨badd B [w], lp⟩ :: R) Q := by
 have h : rowsB F (R.length + 1) 1 [x] = some [w] := by simp [rowsB, hx, lowL, hl]
 apply propext
 constructor
 ·rintro ⟨_, h2⟩
  simp only [h] at h2
  exact h2
 ·intro h2
  refine ⟨⟨by simp, by simp, by simp⟩, ?_⟩
  simp only [h]
  exact h2
theorem src1 {i e : Nat} {w : V} (hg : bget B i = some [w]) (hw : strip w = w) : srcRows (⟨B, lp⟩ :: R) 1 (.bsl R.length i 0 1 1 e) = some [[w]] := by
 have h1 : getBox (⟨B, lp⟩ :: R) R.length i = some [w] := by rw [getBox_top]; exact hg
 simp only [srcRows, h1]
 simp [cutL, hw, chunk]
theorem Appr0 {e i b : Nat} {x y : Opd} {w : V} (hx : evO F x = .slice .nil []) (hy : evO F y = .bsl R.length i 0 1 1 e) (hg : bget B i = some [w]) (hw : strip w = w) (hl : low (R.length + 1) w = true) (ho : noOwn [w] = true) (hb : b ≤ 1000) :
  Wk E (.s (.seq ⟨d, .appr e 1 b x y none, none⟩ :: bs)) ks F (⟨B, lp⟩ :: R) Q = Wk E (.s bs) ks (putO (unown F x) d (.bsl R.length (blen B) 0 1 1 e)) (⟨badd B [w], lp⟩ :: R) Q := by
 have h1 : lenAt (⟨B, lp⟩ :: R) R.length = blen B := by simp [lenAt, blen]
 have h2 : addBox (⟨B, lp⟩ :: R) R.length [w] = ⟨badd B [w], lp⟩ :: R := by simp [addBox, badd]
 have h3 : lvOf F (⟨B, lp⟩ :: R) none = some R.length := by simp [lvOf]
 show apprK e 1 b (evO F x) (srcRows (⟨B, lp⟩ :: R) 1 (evO F y)) (lvOf F (⟨B, lp⟩ :: R) none) d F (unown F x) (⟨B, lp⟩ :: R) (fun F S => Wk E (.s bs) ks F S Q) = _
 rw [hx, hy, src1 hg hw, h3]
 apply propext
 constructor
 ·rintro ⟨_, _, _, h⟩
  rw [List.flatten_singleton] at h
  rw [h1, h2] at h
  exact h
 ·intro h
  refine ⟨⟨rfl, by decide, by simp; omega, by simp⟩, ?_⟩
  simp only [List.flatten_singleton]
  refine ⟨by simp [lowL, hl], ho, ?_⟩
  rw [h1, h2]
  exact h
theorem Appr1 {e i j c b : Nat} {x y : Opd} {w : V} {cs : List V} (hx : evO F x = .bsl R.length j 0 c 1 e) (hy : evO F y = .bsl R.length i 0 1 1 e) (hj : bget B j = some cs) (hc : cs.length = c) (hos : noOwn cs = true) (hg : bget B i = some [w]) (hw : strip w = w) (hl : low (R.length + 1) w = true) (ho : noOwn [w] = true) (hb : (c + 1) * b ≤ 140737488355328) (hcc : c + 1 ≤ 140737488355328) :
  Wk E (.s (.seq ⟨d, .appr e 1 b x y none, none⟩ :: bs)) ks F (⟨B, lp⟩ :: R) Q = Wk E (.s bs) ks (putO F d (.bsl R.length (blen B) 0 (c + 1) 1 e)) (⟨badd (bset B j dead) (cs ++ [w]), lp⟩ :: R) Q := by
 have h1 : lenAt (⟨B, lp⟩ :: R) R.length = blen B := by simp [lenAt, blen]
 have h2 : addBox (setBox (⟨B, lp⟩ :: R) R.length j dead) R.length (cs ++ [w]) = ⟨badd (bset B j dead) (cs ++ [w]), lp⟩ :: R := by rw [setBox_top]; simp [addBox, badd]
 have h3 : lvOf F (⟨B, lp⟩ :: R) none = some R.length := by simp [lvOf]
 have h4 : ((getBox (⟨B, lp⟩ :: R) R.length j).bind fun cs => cutL cs 0 (c * 1)) = some cs := by
  rw [getBox_top, hj]; subst hc; simp [cutL]
 show apprK e 1 b (evO F x) (srcRows (⟨B, lp⟩ :: R) 1 (evO F y)) (lvOf F (⟨B, lp⟩ :: R) none) d F (unown F x) (⟨B, lp⟩ :: R) (fun F S => Wk E (.s bs) ks F S Q) = _
 rw [hx, hy, src1 hg hw, h3]
 simp only [apprK, h4, List.flatten_singleton, List.length_singleton]
 rw [h1, h2]
 apply propext
 constructor
 ·rintro ⟨_, _, _, _, h⟩
  exact h
 ·intro h
  exact ⟨⟨by simp, by simp, by simp, by simp, hb, hcc⟩, hos, by simp [lowL, hl], ho, h⟩
end
@[go_sem] theorem strip_rowsV {c : Bool} {l : List (List Int)} : strip (rowsV c l) = rowsV c l := by
 cases c
 ·rfl
 ·exact strip_nk
@[go_sem] theorem cp_rowsV {c : Bool} {l : List (List Int)} : cp (rowsV c l) = some (rowsV c l) := by
 cases c
 ·rfl
 ·exact cp_nk
@[go_sem] theorem tame_rowsV {c : Bool} {l : List (List Int)} : tame (rowsV c l) = true := by cases c <;> rfl
@[go_sem] theorem strip_intsV {c : Bool} {l : List Int} : strip (intsV c l) = intsV c l := by
 cases c
 ·rfl
 ·exact strip_nk
@[go_sem] theorem cp_intsV {c : Bool} {l : List Int} : cp (intsV c l) = some (intsV c l) := by
 cases c
 ·rfl
 ·exact cp_nk
@[go_sem] theorem tame_intsV {c : Bool} {l : List Int} : tame (intsV c l) = true := by cases c <;> rfl
theorem intsV_t {l : List Int} : intsV true l = .slice (nk l.isEmpty) (l.map encI) := rfl
theorem rfresh_ok {p : Prg} (hp : OkPrg p) (hm : ∀ s ∈ p.body, SmS s) {b : Bool} {ps : List Int} (hpl : ps.length ≤ LIM) (s : Int) :
  ∃ v, (v = memV (decide (askErr p ps = 0)) (freshFrom (modI s 1000003) 0 (cellsL p ps)) ∨ (v = .slice .nil [] ∧ askErr p ps = 0 ∧ p.arrays = [])) ∧ Sp theEnv 34 [.agg (encPrg p), .slice (nk b) (ps.map encI), .int .i64 s] (.tup [v, .int .i64 (askErr p ps)]) := by
 have hR := rasked_ok hp hm (b := b) hpl
 rw [ask_same] at hR
 by_cases he : askErr p ps = 0
 ·obtain ⟨hc, hl, hin, hsh, _⟩ := ask_in he
  have hag := cells_agree hc hsh
  have h8 : p.arrays.length ≤ 8 := (chk_head hc).2.1
  have hN : (rcOf ps p.arrays).length = p.arrays.length := by simp [rcOf]
  rw [he, hin] at hR
  simp only [he, decide_true]
  have hcl : cellsL p ps = rcOf ps p.arrays := hag.1
  rw [hcl]
  refine ⟨if p.arrays = [] then .slice .nil [] else memV true (freshFrom (modI s 1000003) 0 (rcOf ps p.arrays)), ?_, ?_⟩
  ·split
   ·rename_i h; exact .inr ⟨rfl, trivial, h⟩
   ·exact .inl rfl
  refine Sp.fnZ rfl rfl rfl rfl (by simp only [go_sem, Nat.reduceEqDiff, Nat.reduceAdd, Nat.reduceLeDiff, Nat.reduceMul, Nat.reduceSub, Int.reduceLT, Int.reduceLE, Int.reduceEq, Int.reduceAdd, Int.reduceNeg, reduceIte, reduceCtorEq, Nat.reduceLT]) (by intro n; split <;> simp only [go_sem, Nat.reduceEqDiff, Nat.reduceAdd, Nat.reduceLeDiff, Nat.reduceMul, Nat.reduceSub, Int.reduceLT, Int.reduceLE, Int.reduceEq, Int.reduceAdd, Int.reduceNeg, reduceIte, reduceCtorEq, Nat.reduceLT]) fun S => ?_
  simp only [a34, c34, go_sem, Nat.reduceEqDiff, Nat.reduceAdd, Nat.reduceLeDiff, Nat.reduceMul, Nat.reduceSub, Int.reduceLT, Int.reduceLE, Int.reduceEq, Int.reduceAdd, Int.reduceNeg, reduceIte, reduceCtorEq, Nat.reduceLT, hR.call]
  simp only [go_sem, Nat.reduceEqDiff, Nat.reduceAdd, Nat.reduceLeDiff, Nat.reduceMul, Nat.reduceSub, Int.reduceLT, Int.reduceLE, Int.reduceEq, Int.reduceAdd, Int.reduceNeg, reduceIte, reduceCtorEq, Nat.reduceLT, (rmod_ok s).call, intsV_t]
  generalize hs' : modI s 1000003 = s0
  refine Run_range (rcOf ps p.arrays).length [11, 33] [13] (fun k vs S' => ∃ (B : List (List V)) (cs : List V), S' = ⟨encPrg p :: B, none⟩ :: S ∧ RowsIn 1 S.length B cs (freshFrom s0 0 ((rcOf ps p.arrays).take k)) ∧ ((k = 0 ∧ vs = [.slice .nil []]) ∨ (k ≠ 0 ∧ ∃ j, vs = [.bsl S.length (j + 1) 0 k 1 27] ∧ B[j]? = some cs))) (by omega) (by simp only [go_sem, Nat.reduceEqDiff, Nat.reduceAdd, Nat.reduceLeDiff, Nat.reduceMul, Nat.reduceSub, Int.reduceLT, Int.reduceLE, Int.reduceEq, Int.reduceAdd, Int.reduceNeg, reduceIte, reduceCtorEq, Nat.reduceLT]) (by simp only [go_sem, Nat.reduceEqDiff, Nat.reduceAdd, Nat.reduceLeDiff, Nat.reduceMul, Nat.reduceSub, Int.reduceLT, Int.reduceLE, Int.reduceEq, Int.reduceAdd, Int.reduceNeg, reduceIte, reduceCtorEq, Nat.reduceLT]) rfl rfl rfl rfl (by simp only [go_sem, Nat.reduceEqDiff, Nat.reduceAdd, Nat.reduceLeDiff, Nat.reduceMul, Nat.reduceSub, Int.reduceLT, Int.reduceLE, Int.reduceEq, Int.reduceAdd, Int.reduceNeg, reduceIte, reduceCtorEq, Nat.reduceLT]) ⟨[], [], rfl, .nil, .inl ⟨by simp only [go_sem, Nat.reduceEqDiff, Nat.reduceAdd, Nat.reduceLeDiff, Nat.reduceMul, Nat.reduceSub, Int.reduceLT, Int.reduceLE, Int.reduceEq, Int.reduceAdd, Int.reduceNeg, reduceIte, reduceCtorEq, Nat.reduceLT], by simp only [go_sem, Nat.reduceEqDiff, Nat.reduceAdd, Nat.reduceLeDiff, Nat.reduceMul, Nat.reduceSub, Int.reduceLT, Int.reduceLE, Int.reduceEq, Int.reduceAdd, Int.reduceNeg, reduceIte, reduceCtorEq, Nat.reduceLT]⟩⟩ ?_ ?_
  ·rintro k F _ hk ⟨B, cs, rfl, hrows, hv⟩ hi hkept
   simp only [go_sem, Nat.reduceEqDiff, Nat.reduceAdd, Nat.reduceLeDiff, Nat.reduceMul, Nat.reduceSub, Int.reduceLT, Int.reduceLE, Int.reduceEq, Int.reduceAdd, Int.reduceNeg, reduceIte, reduceCtorEq, Nat.reduceLT] at hkept hv
   obtain ⟨x, hx⟩ : ∃ x, (rcOf ps p.arrays)[k]? = some x := ⟨(rcOf ps p.arrays)[k], List.getElem?_eq_getElem hk⟩
   have hrng : 0 ≤ x ∧ x ≤ 4096 := hag.2 _ (List.mem_of_getElem? hx)
   have hlen : cs.length = k := by rw [hrows.len, freshFrom_len]; simp; omega
   obtain ⟨n, hn⟩ : ∃ n : Nat, x = (n : Int) := ⟨x.toNat, by omega⟩
   have hrem : ∀ y : Int, bin .rem 0 (.int .i64 y) (.int .i64 2001) = some (.int .i64 (y.tmod 2001)) := fun y => bin_rem (by decide)
   have htm : tame (F 13) = true := by
    rcases hv with ⟨_, h⟩ | ⟨_, j, h, _⟩ <;> rw [h] <;> rfl
   simp only [go_sem, Nat.reduceEqDiff, Nat.reduceAdd, Nat.reduceLeDiff, Nat.reduceMul, Nat.reduceSub, Int.reduceLT, Int.reduceLE, Int.reduceEq, Int.reduceAdd, Int.reduceNeg, reduceIte, reduceCtorEq, Nat.reduceLT, hkept, hi, iaO_map hx]
   rw [Mk_int (k := n) hn (by decide) (by omega) (by omega)]
   simp only [go_sem, Nat.reduceEqDiff, Nat.reduceAdd, Nat.reduceLeDiff, Nat.reduceMul, Nat.reduceSub, Int.reduceLT, Int.reduceLE, Int.reduceEq, Int.reduceAdd, Int.reduceNeg, reduceIte, reduceCtorEq, Nat.reduceLT]
   rw [← partRow_0 (s := s0) (a := k)]
   refine Run_range n [11, 13, 14, 16, 33, 35] [] (fun k3 _ S' => S' = ⟨encPrg p :: (B ++ [ints (partRow s0 k n k3)]), none⟩ :: S) (by omega) (by simp only [go_sem, Nat.reduceEqDiff, Nat.reduceAdd, Nat.reduceLeDiff, Nat.reduceMul, Nat.reduceSub, Int.reduceLT, Int.reduceLE, Int.reduceEq, Int.reduceAdd, Int.reduceNeg, reduceIte, reduceCtorEq, Nat.reduceLT]) (by simp only [go_sem, Nat.reduceEqDiff, Nat.reduceAdd, Nat.reduceLeDiff, Nat.reduceMul, Nat.reduceSub, Int.reduceLT, Int.reduceLE, Int.reduceEq, Int.reduceAdd, Int.reduceNeg, reduceIte, reduceCtorEq, Nat.reduceLT]) rfl rfl rfl rfl (by simp only [go_sem, Nat.reduceEqDiff, Nat.reduceAdd, Nat.reduceLeDiff, Nat.reduceMul, Nat.reduceSub, Int.reduceLT, Int.reduceLE, Int.reduceEq, Int.reduceAdd, Int.reduceNeg, reduceIte, reduceCtorEq, Nat.reduceLT, hkept, hi, htm]) rfl ?_ ?_
   ·rintro k3 F3 _ hk3 rfl hi3 hkept3
    simp only [go_sem, Nat.reduceEqDiff, Nat.reduceAdd, Nat.reduceLeDiff, Nat.reduceMul, Nat.reduceSub, Int.reduceLT, Int.reduceLE, Int.reduceEq, Int.reduceAdd, Int.reduceNeg, reduceIte, reduceCtorEq, Nat.reduceLT, hkept, hi] at hkept3
    have hia3 : iaO 1 (V.bsl S.length (blen B + 1) 0 n 1 3) (.int .i64 (k3 : Int)) = some (.ptr S.length (blen B + 1) k3) := by
     rw [iaO_bsl hk3]; simp
    have hp1 : k3 < (partRow s0 k n k3).length := by rw [partRow_len]; exact hk3
    have hst : ∀ y, setAt (ints (partRow s0 k n k3)) k3 [.int .i64 y] = ints ((partRow s0 k n k3).set k3 y) := fun y => ints_setAt hp1
    have hle3 : k3 + 1 ≤ (ints (partRow s0 k n k3)).length := by rw [ints_len]; exact hp1
    rw [← partRow_set hk3]
    simp only [go_sem, Nat.reduceEqDiff, Nat.reduceAdd, Nat.reduceLeDiff, Nat.reduceMul, Nat.reduceSub, Int.reduceLT, Int.reduceLE, Int.reduceEq, Int.reduceAdd, Int.reduceNeg, reduceIte, reduceCtorEq, Nat.reduceLT, hkept3, hi3, hia3, hrem, hst, hle3, freshV, wi]
   ·rintro F3 _ rfl hkept3
    simp only [go_sem, Nat.reduceEqDiff, Nat.reduceAdd, Nat.reduceLeDiff, Nat.reduceMul, Nat.reduceSub, Int.reduceLT, Int.reduceLE, Int.reduceEq, Int.reduceAdd, Int.reduceNeg, reduceIte, reduceCtorEq, Nat.reduceLT, hkept, hi] at hkept3
    rw [partRow_n]
    have hrl : (freshRow s0 k n).length = n := by simp [freshRow]
    simp only [go_sem, Nat.reduceEqDiff, Nat.reduceAdd, Nat.reduceLeDiff, Nat.reduceMul, Nat.reduceSub, Int.reduceLT, Int.reduceLE, Int.reduceEq, Int.reduceAdd, Int.reduceNeg, reduceIte, reduceCtorEq, Nat.reduceLT, hkept3, htm]
    generalize hw : V.bsl S.length (blen B + 1) 0 n 1 3 = w
    have hsw : strip w = w := by rw [← hw]; rfl
    have hlw : low (S.length + 1) w = true := by rw [← hw]; simp [low]
    have hcw : cellsOf w = some [w] := by rw [← hw]; rfl
    have how : noOwn [w] = true := by rw [← hw]; rfl
    have hdw : dz (some [w]) = some [w] := dz_def fun c hc => by simp at hc; subst hc; rw [← hw]; rfl
    have hkk : 0 + ((rcOf ps p.arrays).take k).length = k := by simp; omega
    have hsn : freshFrom s0 0 ((rcOf ps p.arrays).take (k + 1)) = freshFrom s0 0 ((rcOf ps p.arrays).take k) ++ [freshRow s0 k n] := by
     rw [take_snoc' hx, freshFrom_snoc, hkk, hn]; rfl
    have hget : (B ++ [ints (freshRow s0 k n), [w]])[blen B]? = some (ints (freshRow s0 k n)) := by
     rw [List.getElem?_append_right (by simp [blen])]; simp [blen]
    have hr2 := (hrows.mono (C := [ints (freshRow s0 k n), [w]])).snoc (i := blen B) hget
    rw [hrl, hw] at hr2
    rw [Rowr1 (w := w) (by simp only [go_sem, Nat.reduceEqDiff, Nat.reduceAdd, Nat.reduceLeDiff, Nat.reduceMul, Nat.reduceSub, Int.reduceLT, Int.reduceLE, Int.reduceEq, Int.reduceAdd, Int.reduceNeg, reduceIte, reduceCtorEq, Nat.reduceLT, hsw, hcw]) hlw]
    simp only [go_sem, Nat.reduceEqDiff, Nat.reduceAdd, Nat.reduceLeDiff, Nat.reduceMul, Nat.reduceSub, Int.reduceLT, Int.reduceLE, Int.reduceEq, Int.reduceAdd, Int.reduceNeg, reduceIte, reduceCtorEq, Nat.reduceLT]
    rcases hv with ⟨hk0, hv⟩ | ⟨hk0, j, hv, hj⟩
    ·have hcs : cs = [] := List.eq_nil_of_length_eq_zero (by omega)
     subst hcs
     rw [Appr0 (i := blen B + 1 + 1) (w := w) (by simp only [go_sem, Nat.reduceEqDiff, Nat.reduceAdd, Nat.reduceLeDiff, Nat.reduceMul, Nat.reduceSub, Int.reduceLT, Int.reduceLE, Int.reduceEq, Int.reduceAdd, Int.reduceNeg, reduceIte, reduceCtorEq, Nat.reduceLT, hv]) (by simp only [go_sem, Nat.reduceEqDiff, Nat.reduceAdd, Nat.reduceLeDiff, Nat.reduceMul, Nat.reduceSub, Int.reduceLT, Int.reduceLE, Int.reduceEq, Int.reduceAdd, Int.reduceNeg, reduceIte, reduceCtorEq, Nat.reduceLT]) (by simp only [go_sem, Nat.reduceEqDiff, Nat.reduceAdd, Nat.reduceLeDiff, Nat.reduceMul, Nat.reduceSub, Int.reduceLT, Int.reduceLE, Int.reduceEq, Int.reduceAdd, Int.reduceNeg, reduceIte, reduceCtorEq, Nat.reduceLT, hdw]) hsw hlw how (by decide)]
     simp only [go_sem, Nat.reduceEqDiff, Nat.reduceAdd, Nat.reduceLeDiff, Nat.reduceMul, Nat.reduceSub, Int.reduceLT, Int.reduceLE, Int.reduceEq, Int.reduceAdd, Int.reduceNeg, reduceIte, reduceCtorEq, Nat.reduceLT, hv]
     subst hk0
     refine ⟨_, [w], rfl, ?_, .inr ⟨blen B + 2, rfl, ?_⟩⟩
     ·rw [hsn]
      have := hr2.mono (C := [[w]])
      simpa using this
     ·rw [List.getElem?_append_right (by simp [blen])]; simp [blen]
    ·have hjl := (List.getElem?_eq_some_iff.1 hj).1
     have hj2 : (B ++ [ints (freshRow s0 k n), [w]])[j]? = some cs := by rw [List.getElem?_append_left hjl]; exact hj
     have hbg : bget (encPrg p :: (B ++ [ints (freshRow s0 k n), [w]])) (j + 1) = some cs := by
      simp only [go_sem, Nat.reduceEqDiff, Nat.reduceAdd, Nat.reduceLeDiff, Nat.reduceMul, Nat.reduceSub, Int.reduceLT, Int.reduceLE, Int.reduceEq, Int.reduceAdd, Int.reduceNeg, reduceIte, reduceCtorEq, Nat.reduceLT, bget, hj2, dz_def hrows.undef]
     rw [Appr1 (i := blen B + 1 + 1) (j := j + 1) (c := k) (w := w) (cs := cs) (by simp only [go_sem, Nat.reduceEqDiff, Nat.reduceAdd, Nat.reduceLeDiff, Nat.reduceMul, Nat.reduceSub, Int.reduceLT, Int.reduceLE, Int.reduceEq, Int.reduceAdd, Int.reduceNeg, reduceIte, reduceCtorEq, Nat.reduceLT, hv]) (by simp only [go_sem, Nat.reduceEqDiff, Nat.reduceAdd, Nat.reduceLeDiff, Nat.reduceMul, Nat.reduceSub, Int.reduceLT, Int.reduceLE, Int.reduceEq, Int.reduceAdd, Int.reduceNeg, reduceIte, reduceCtorEq, Nat.reduceLT]) hbg hlen hrows.own (by simp only [go_sem, Nat.reduceEqDiff, Nat.reduceAdd, Nat.reduceLeDiff, Nat.reduceMul, Nat.reduceSub, Int.reduceLT, Int.reduceLE, Int.reduceEq, Int.reduceAdd, Int.reduceNeg, reduceIte, reduceCtorEq, Nat.reduceLT, hdw]) hsw hlw how (by omega) (by omega)]
     simp only [go_sem, Nat.reduceEqDiff, Nat.reduceAdd, Nat.reduceLeDiff, Nat.reduceMul, Nat.reduceSub, Int.reduceLT, Int.reduceLE, Int.reduceEq, Int.reduceAdd, Int.reduceNeg, reduceIte, reduceCtorEq, Nat.reduceLT]
     have hne : cs ≠ [] := by rintro rfl; exact hk0 hlen.symm
     refine ⟨_, cs ++ [w], rfl, ?_, .inr ⟨blen B + 2, rfl, ?_⟩⟩
     ·rw [hsn]
      exact (hr2.set (X := dead) (hrows.mono (C := [ints (freshRow s0 k n), [w]])) hne hj2).mono
     ·have : (bset (B ++ [ints (freshRow s0 k n), [w]]) j dead).length = blen B + 2 := by simp [bset, blen]
      rw [List.getElem?_append_right (by omega), this, Nat.sub_self]; rfl
  ·rintro F _ ⟨B, cs, rfl, hrows, hv⟩ hkept
   simp only [go_sem, Nat.reduceEqDiff, Nat.reduceAdd, Nat.reduceLeDiff, Nat.reduceMul, Nat.reduceSub, Int.reduceLT, Int.reduceLE, Int.reduceEq, Int.reduceAdd, Int.reduceNeg, reduceIte, reduceCtorEq, Nat.reduceLT] at hkept hv
   rw [List.take_length] at hrows
   rcases hv with ⟨hk0, hv⟩ | ⟨hk0, j, hv, hj⟩
   ·have hpa : p.arrays = [] := List.eq_nil_of_length_eq_zero (by omega)
    simp only [go_sem, Nat.reduceEqDiff, Nat.reduceAdd, Nat.reduceLeDiff, Nat.reduceMul, Nat.reduceSub, Int.reduceLT, Int.reduceLE, Int.reduceEq, Int.reduceAdd, Int.reduceNeg, reduceIte, reduceCtorEq, Nat.reduceLT, hkept, hv, hpa]
    rw [FinZR_low (by simp only [go_sem, Nat.reduceEqDiff, Nat.reduceAdd, Nat.reduceLeDiff, Nat.reduceMul, Nat.reduceSub, Int.reduceLT, Int.reduceLE, Int.reduceEq, Int.reduceAdd, Int.reduceNeg, reduceIte, reduceCtorEq, Nat.reduceLT])]
    exact ⟨rfl, rfl⟩
   ·have hpa : p.arrays ≠ [] := fun h => hk0 (by rw [hN, h]; rfl)
    simp only [go_sem, Nat.reduceEqDiff, Nat.reduceAdd, Nat.reduceLeDiff, Nat.reduceMul, Nat.reduceSub, Int.reduceLT, Int.reduceLE, Int.reduceEq, Int.reduceAdd, Int.reduceNeg, reduceIte, reduceCtorEq, Nat.reduceLT, hkept, hv, hpa]
    have hlen : cs.length = (rcOf ps p.arrays).length := by rw [hrows.len, freshFrom_len]
    have hz := frz_mem (S := ⟨encPrg p :: B, none⟩ :: S) (lo := S.length) (k := 0) (i := j + 1) (Nat.le_refl _) hrows (by
     simp only [go_sem, Nat.reduceEqDiff, Nat.reduceAdd, Nat.reduceLeDiff, Nat.reduceMul, Nat.reduceSub, Int.reduceLT, Int.reduceLE, Int.reduceEq, Int.reduceAdd, Int.reduceNeg, reduceIte, reduceCtorEq, Nat.reduceLT, bget, hj, dz_def hrows.undef]) (fun i r hi => by
     simp only [go_sem, Nat.reduceEqDiff, Nat.reduceAdd, Nat.reduceLeDiff, Nat.reduceMul, Nat.reduceSub, Int.reduceLT, Int.reduceLE, Int.reduceEq, Int.reduceAdd, Int.reduceNeg, reduceIte, reduceCtorEq, Nat.reduceLT, bget, hi])
    rw [hlen] at hz
    have hz' : AM.frz (⟨encPrg p :: B, none⟩ :: S) S.length 4 (.tup [.bsl S.length (j + 1) 0 (rcOf ps p.arrays).length 1 27, .int .i64 0]) = some (.tup [memV true (freshFrom s0 0 (rcOf ps p.arrays)), .int .i64 0]) := by
     simp only [AM.frz, List.mapM_cons, List.mapM_nil] at hz ⊢
     rw [hz]
     rfl
    rw [FinZR_frz (by simp [low, lowL]) hz' (by simp only [go_sem, Nat.reduceEqDiff, Nat.reduceAdd, Nat.reduceLeDiff, Nat.reduceMul, Nat.reduceSub, Int.reduceLT, Int.reduceLE, Int.reduceEq, Int.reduceAdd, Int.reduceNeg, reduceIte, reduceCtorEq, Nat.reduceLT])]
    exact ⟨rfl, rfl⟩
 ·refine ⟨_, .inl rfl, ?_⟩
  refine Sp.fnZ rfl rfl rfl rfl (by simp only [go_sem, Nat.reduceEqDiff, Nat.reduceAdd, Nat.reduceLeDiff, Nat.reduceMul, Nat.reduceSub, Int.reduceLT, Int.reduceLE, Int.reduceEq, Int.reduceAdd, Int.reduceNeg, reduceIte, reduceCtorEq, Nat.reduceLT]) (by intro n; simp only [go_sem, Nat.reduceEqDiff, Nat.reduceAdd, Nat.reduceLeDiff, Nat.reduceMul, Nat.reduceSub, Int.reduceLT, Int.reduceLE, Int.reduceEq, Int.reduceAdd, Int.reduceNeg, reduceIte, reduceCtorEq, Nat.reduceLT]) fun S => ?_
  simp only [a34, c34, go_sem, Nat.reduceEqDiff, Nat.reduceAdd, Nat.reduceLeDiff, Nat.reduceMul, Nat.reduceSub, Int.reduceLT, Int.reduceLE, Int.reduceEq, Int.reduceAdd, Int.reduceNeg, reduceIte, reduceCtorEq, Nat.reduceLT, hR.call]
  rw [Run_if]
  simp only [he, go_sem, Nat.reduceEqDiff, Nat.reduceAdd, Nat.reduceLeDiff, Nat.reduceMul, Nat.reduceSub, Int.reduceLT, Int.reduceLE, Int.reduceEq, Int.reduceAdd, Int.reduceNeg, reduceIte, reduceCtorEq, Nat.reduceLT, decide_false]
  rw [FinZR_low (by simp only [go_sem, Nat.reduceEqDiff, Nat.reduceAdd, Nat.reduceLeDiff, Nat.reduceMul, Nat.reduceSub, Int.reduceLT, Int.reduceLE, Int.reduceEq, Int.reduceAdd, Int.reduceNeg, reduceIte, reduceCtorEq, Nat.reduceLT])]
  exact ⟨rfl, rfl⟩
end Wp
end AM
end Go.Proofs.YtimfbnojmdnlnaaGreat
end
