/- run.Fresh; The reference's Fresh. -/
import Derived.Test.YtimfbnojmdnlnaaGreatKM37
set_option linter.unusedVariables false
set_option linter.unusedSimpArgs false
set_option maxRecDepth 100000
section
namespace Go.Proofs.YtimfbnojmdnlnaaGreat
open Nat renaming reduceEqDiff → Ra, reduceAdd → Rb, reduceLeDiff → Rc, reduceMul → Rd, reduceSub → Re, reduceLT → Rk
open Int renaming reduceLT → Rf, reduceLE → Rg, reduceEq → Rh, reduceAdd → Ri, reduceNeg → Rj
namespace AM
namespace Wp
theorem rep_one {k : Nat} {z : V} : rep k [z] = List.replicate k z := by
 induction k with
 | zero => rfl
 | succ n ih => simp only [rep] at ih ⊢; rw [List.replicate_succ, List.flatten_cons, ih]; rfl
def memV (c : Bool) (l : List (List Int)) : V := if c = true then .slice .shut (l.map fun r => encMem ⟨false, r⟩) else .slice .nil []
@[go_sem] theorem strip_memV {c : Bool} {l : List (List Int)} : strip (memV c l) = memV c l := by cases c <;> rfl
@[go_sem] theorem low_memV {c : Bool} {l : List (List Int)} {n : Nat} : low n (memV c l) = true := by cases c <;> rfl
@[go_sem] theorem cp_memV {c : Bool} {l : List (List Int)} : cp (memV c l) = some (memV c l) := by cases c <;> rfl
@[go_sem] theorem tame_memV {c : Bool} {l : List (List Int)} : tame (memV c l) = true := by cases c <;> rfl
def cellsL (p : Prg) (ps : List Int) : List Int := (shapesOf ps p.arrays).map (·.cells)
theorem fresh_ok {p : Prg} (hp : OkPrg p) {b : Bool} {ps : List Int} (hpl : ps.length ≤ LIM) (s : Int) :
  Sp theEnv 33 [.agg (encPrg p), .slice (nk b) (ps.map encI), .int .i64 s] (.tup [memV (decide (askErr p ps = 0)) (freshFrom (modI s 1000003) 0 (cellsL p ps)), .int .i64 (askErr p ps)]) := by
 refine Sp.fnZ rfl rfl rfl rfl (by simp only [go_sem, Ra, Rb, Rc, Rd, Re, Rf, Rg, Rh, Ri, Rj, reduceIte, reduceCtorEq, Rk]) (by intro n; simp only [go_sem, Ra, Rb, Rc, Rd, Re, Rf, Rg, Rh, Ri, Rj, reduceIte, reduceCtorEq, Rk]) fun S => ?_
 simp only [a33, c33, go_sem, Ra, Rb, Rc, Rd, Re, Rf, Rg, Rh, Ri, Rj, reduceIte, reduceCtorEq, Rk, (asked_ok hp hpl).call]
 rw [Run_if]
 simp only [go_sem, Ra, Rb, Rc, Rd, Re, Rf, Rg, Rh, Ri, Rj, reduceIte, reduceCtorEq, Rk]
 by_cases he : askErr p ps = 0
 ·obtain ⟨hc, hl, _, hsh, _⟩ := ask_in he
  have hag := cells_agree hc hsh
  have hN : (shapesOf ps p.arrays).length ≤ 8 := by simp [shapesOf]; exact (chk_head hc).2.1
  simp only [he, shapesV_0, go_sem, Ra, Rb, Rc, Rd, Re, Rf, Rg, Rh, Ri, Rj, reduceIte, reduceCtorEq, Rk, (mod_ok s).call]
  rw [Mk_int (k := (shapesOf ps p.arrays).length) rfl (by decide) (by omega) (by omega)]
  simp only [go_sem, Ra, Rb, Rc, Rd, Re, Rf, Rg, Rh, Ri, Rj, reduceIte, reduceCtorEq, Rk]
  have hcl : (cellsL p ps).length = (shapesOf ps p.arrays).length := by simp [cellsL]
  generalize hs' : modI s 1000003 = s0
  rw [rep_one]
  refine Run_range (shapesOf ps p.arrays).length [2, 10, 31] [] (fun k _ S' => ∃ (B : List (List V)) (cs : List V), S' = ⟨encPrg p :: (cs ++ List.replicate ((shapesOf ps p.arrays).length - k) (.slice .nil [])) :: B, none⟩ :: S ∧ RowsIn 2 S.length B cs (freshFrom s0 0 ((cellsL p ps).take k))) (by omega) (by simp only [go_sem, Ra, Rb, Rc, Rd, Re, Rf, Rg, Rh, Ri, Rj, reduceIte, reduceCtorEq, Rk]) (by simp only [go_sem, Ra, Rb, Rc, Rd, Re, Rf, Rg, Rh, Ri, Rj, reduceIte, reduceCtorEq, Rk]) rfl rfl rfl rfl (by simp only [go_sem, Ra, Rb, Rc, Rd, Re, Rf, Rg, Rh, Ri, Rj, reduceIte, reduceCtorEq, Rk]) ⟨[], [], by rw [List.nil_append, Nat.sub_zero], .nil⟩ ?_ ?_
  ·rintro k F _ hk ⟨B, cs, rfl, hrows⟩ hi hkept
   simp only [go_sem, Ra, Rb, Rc, Rd, Re, Rf, Rg, Rh, Ri, Rj, reduceIte, reduceCtorEq, Rk] at hkept
   obtain ⟨x, hx⟩ : ∃ x, (shapesOf ps p.arrays)[k]? = some x := ⟨(shapesOf ps p.arrays)[k], List.getElem?_eq_getElem hk⟩
   have hcx : (cellsL p ps)[k]? = some x.cells := by simp [cellsL, hx]
   have hrng : 0 ≤ x.cells ∧ x.cells ≤ 4096 := hag.2 _ (by rw [← hag.1]; exact List.mem_of_getElem? hcx)
   have hlen : cs.length = k := by rw [hrows.len, freshFrom_len]; simp; omega
   obtain ⟨m, hm⟩ : ∃ m, (shapesOf ps p.arrays).length - k = m + 1 := ⟨(shapesOf ps p.arrays).length - k - 1, by omega⟩
   have hm' : (shapesOf ps p.arrays).length - (k + 1) = m := by omega
   obtain ⟨n, hn⟩ : ∃ n : Nat, x.cells = (n : Int) := ⟨x.cells.toNat, by omega⟩
   have hia : ∀ kk : IntKind, iaO 1 (V.bsl S.length 1 0 (shapesOf ps p.arrays).length 1 27) (.int kk (k : Int)) = some (.ptr S.length 1 k) := fun kk => by
    rw [iaO_bsl hk]; simp
   rw [hm, hm']
   have hcut := fun w (hw : strip w = w) => cut_one (cs := cs) (ds := List.replicate m (V.slice .nil [])) (k := k) hlen hw
   have hset := fun w => at_one (cs := cs) (z := V.slice .nil []) (w := w) (m := m) hlen
   have hu : ∀ c ∈ cs ++ List.replicate (m + 1) (V.slice .nil []), isUndef c = false := by
    intro c hc
    rcases List.mem_append.1 hc with hc | hc
    ·exact hrows.undef c hc
    ·rw [List.eq_of_mem_replicate hc]; rfl
   have hd1 := dz_def hu
   have hle : k + 1 ≤ (cs ++ List.replicate (m + 1) (V.slice .nil [])).length := by simp; omega
   have hrem : ∀ y : Int, bin .rem 0 (.int .i64 y) (.int .i64 2001) = some (.int .i64 (y.tmod 2001)) := fun y => bin_rem (by decide)
   simp only [go_sem, Ra, Rb, Rc, Rd, Re, Rf, Rg, Rh, Ri, Rj, reduceIte, reduceCtorEq, Rk, hkept, hi, iaO_map hx]
   rw [Mk_int (k := n) hn (by decide) (by omega) (by omega)]
   simp only [go_sem, Ra, Rb, Rc, Rd, Re, Rf, Rg, Rh, Ri, Rj, reduceIte, reduceCtorEq, Rk, hkept, hia, hd1, hle, hset, Nat.lt_succ_self]
   generalize hw : V.bsl S.length (blen B + 1 + 1 + 1) 0 n 1 3 = w
   have hsw : strip w = w := by rw [← hw]; rfl
   have hd2 : dz (some (cs ++ w :: List.replicate m (V.slice .nil []))) = some (cs ++ w :: List.replicate m (V.slice .nil [])) := dz_def (by
    intro c hc
    rcases List.mem_append.1 hc with hc | hc
    ·exact hrows.undef c hc
    ·rcases List.mem_cons.1 hc with hc | hc
     ·subst hc; rw [← hw]; rfl
     ·rw [List.eq_of_mem_replicate hc]; rfl)
   simp only [go_sem, Ra, Rb, Rc, Rd, Re, Rf, Rg, Rh, Ri, Rj, reduceIte, reduceCtorEq, Rk, hkept, hia, hd2, hcut w hsw]
   rw [← hw]
   simp only [go_sem, Ra, Rb, Rc, Rd, Re, Rf, Rg, Rh, Ri, Rj, reduceIte, reduceCtorEq, Rk, hkept]
   rw [hw, ← partRow_0 (s := s0) (a := k)]
   refine Run_range n [2, 10, 11, 31, 33] [] (fun k3 _ S' => S' = ⟨encPrg p :: (cs ++ w :: List.replicate m (.slice .nil [])) :: (B ++ [encShape x, ints (partRow s0 k n k3)]), none⟩ :: S) (by omega) (by simp only [go_sem, Ra, Rb, Rc, Rd, Re, Rf, Rg, Rh, Ri, Rj, reduceIte, reduceCtorEq, Rk]) (by simp only [go_sem, Ra, Rb, Rc, Rd, Re, Rf, Rg, Rh, Ri, Rj, reduceIte, reduceCtorEq, Rk]) rfl rfl rfl rfl (by simp only [go_sem, Ra, Rb, Rc, Rd, Re, Rf, Rg, Rh, Ri, Rj, reduceIte, reduceCtorEq, Rk, hkept, hi]) rfl ?_ ?_
   ·rintro k3 F3 _ hk3 rfl hi3 hkept3
    simp only [go_sem, Ra, Rb, Rc, Rd, Re, Rf, Rg, Rh, Ri, Rj, reduceIte, reduceCtorEq, Rk, hkept, hi] at hkept3
    have hia3 : iaO 1 w (.int .i64 (k3 : Int)) = some (.ptr S.length (blen B + 1 + 1 + 1) k3) := by
     rw [← hw, iaO_bsl hk3]; simp
    have hp1 : k3 < (partRow s0 k n k3).length := by rw [partRow_len]; exact hk3
    have hst : ∀ y, setAt (ints (partRow s0 k n k3)) k3 [.int .i64 y] = ints ((partRow s0 k n k3).set k3 y) := fun y => ints_setAt hp1
    have hle3 : k3 + 1 ≤ (ints (partRow s0 k n k3)).length := by rw [ints_len]; exact hp1
    rw [← partRow_set hk3]
    simp only [go_sem, Ra, Rb, Rc, Rd, Re, Rf, Rg, Rh, Ri, Rj, reduceIte, reduceCtorEq, Rk, hkept3, hi3, hia, hd2, hcut w hsw, hia3, hrem, hst, hle3, freshV, wi]
   ·rintro F3 _ rfl hkept3
    simp only [go_sem, Ra, Rb, Rc, Rd, Re, Rf, Rg, Rh, Ri, Rj, reduceIte, reduceCtorEq, Rk, hkept, hi] at hkept3
    rw [partRow_n]
    simp only [go_sem, Ra, Rb, Rc, Rd, Re, Rf, Rg, Rh, Ri, Rj, reduceIte, reduceCtorEq, Rk, hkept3]
    have hrl : (freshRow s0 k n).length = n := by simp [freshRow]
    have hget : (B ++ [encShape x, ints (freshRow s0 k n)])[blen B + 1]? = some (ints (freshRow s0 k n)) := by
     rw [List.getElem?_append_right (by simp [blen])]; simp [blen]
    refine ⟨B ++ [encShape x, ints (freshRow s0 k n)], cs ++ [w], ⟨by simp, rfl⟩, ?_⟩
    have hr2 := (hrows.mono (C := [encShape x, ints (freshRow s0 k n)])).snoc (i := blen B + 1) hget
    rw [hrl] at hr2
    rw [take_snoc' hcx, freshFrom_snoc, hn, ← hw]
    have hk0 : 0 + ((cellsL p ps).take k).length = k := by simp; omega
    rw [hk0]
    exact hr2
  ·rintro F _ ⟨B, cs, rfl, hrows⟩ hkept
   simp only [go_sem, Ra, Rb, Rc, Rd, Re, Rf, Rg, Rh, Ri, Rj, reduceIte, reduceCtorEq, Rk] at hkept
   simp only [go_sem, Ra, Rb, Rc, Rd, Re, Rf, Rg, Rh, Ri, Rj, reduceIte, reduceCtorEq, Rk, hkept, Nat.sub_self, List.replicate_zero, List.append_nil]
   rw [← hcl, List.take_length] at hrows
   have hlen : cs.length = (shapesOf ps p.arrays).length := by rw [hrows.len, freshFrom_len, hcl]
   have hz := frz_mem (S := ⟨encPrg p :: cs :: B, none⟩ :: S) (lo := S.length) (k := 0) (i := 1) (Nat.le_refl _) hrows (by
    simp only [go_sem, Ra, Rb, Rc, Rd, Re, Rf, Rg, Rh, Ri, Rj, reduceIte, reduceCtorEq, Rk, dz_def hrows.undef]) (fun i r hi => by
    simp only [go_sem, Ra, Rb, Rc, Rd, Re, Rf, Rg, Rh, Ri, Rj, reduceIte, reduceCtorEq, Rk, bget, hi])
   rw [hlen] at hz
   have hz' : AM.frz (⟨encPrg p :: cs :: B, none⟩ :: S) S.length 4 (.tup [.bsl S.length 1 0 (shapesOf ps p.arrays).length 1 27, .int .i64 0]) = some (.tup [memV true (freshFrom s0 0 (cellsL p ps)), .int .i64 0]) := by
    simp only [AM.frz, List.mapM_cons, List.mapM_nil] at hz ⊢
    rw [hz]
    rfl
   rw [FinZR_frz (by simp [low, lowL]) hz' (by simp only [go_sem, Ra, Rb, Rc, Rd, Re, Rf, Rg, Rh, Ri, Rj, reduceIte, reduceCtorEq, Rk])]
   exact ⟨rfl, rfl⟩
 ·rw [shapesV_n he]
  simp only [he, go_sem, Ra, Rb, Rc, Rd, Re, Rf, Rg, Rh, Ri, Rj, reduceIte, reduceCtorEq, Rk, decide_false]
  rw [FinZR_low (by simp only [go_sem, Ra, Rb, Rc, Rd, Re, Rf, Rg, Rh, Ri, Rj, reduceIte, reduceCtorEq, Rk])]
  exact ⟨rfl, rfl⟩
end Wp
end AM
end Go.Proofs.YtimfbnojmdnlnaaGreat
end
section
namespace Go.Proofs.YtimfbnojmdnlnaaGreat
open Nat renaming reduceEqDiff → Ra, reduceAdd → Rb, reduceLeDiff → Rc, reduceMul → Rd, reduceSub → Re, reduceLT → Rk
open Int renaming reduceLT → Rf, reduceLE → Rg, reduceEq → Rh, reduceAdd → Ri, reduceNeg → Rj
namespace AM
namespace Wp
section
variable {E : Env} {ks : List KI} {F : Fr} {S R : St} {Q : Ex → Fr → St → Prop} {bs : List Blk} {d : Option Nat} {B : List (List V)} {lp : Option Lp}
theorem Rowr1 {e : Nat} {x : Opd} {w : V} (hx : cellsOf (strip (evO F x)) = some [w]) (hl : low (R.length + 1) w = true) :
  Wk E (.s (.seq ⟨d, .rowr e 1 [x], none⟩ :: bs)) ks F (⟨B, lp⟩ :: R) Q = Wk E (.s bs) ks (putO F d (.bsl R.length (blen B) 0 1 1 e)) (⟨badd B [w], lp⟩ :: R) Q := by
 have h : rowsB F (R.length + 1) 1 [x] = some [w] := by simp [rowsB, hx, lowL, hl]
 apply propext
 constructor
 ·rintro ⟨_, h2⟩
  simp only [h] at h2
  exact h2
 ·intro h2
  refine ⟨⟨by simp, by simp, by simp⟩, ?_⟩
  simp only [h]
  exact h2
theorem src1 {i e : Nat} {w : V} (hg : bget B i = some [w]) (hw : strip w = w) : srcRows (⟨B, lp⟩ :: R) 1 (.bsl R.length i 0 1 1 e) = some [[w]] := by
 have h1 : getBox (⟨B, lp⟩ :: R) R.length i = some [w] := by rw [getBox_top]; exact hg
 simp only [srcRows, h1]
 simp [cutL, hw, chunk]
theorem Appr0 {e i b : Nat} {x y : Opd} {w : V} (hx : evO F x = .slice .nil []) (hy : evO F y = .bsl R.length i 0 1 1 e) (hg : bget B i = some [w]) (hw : strip w = w) (hl : low (R.length + 1) w = true) (ho : noOwn [w] = true) (hb : b ≤ 1000) :
  Wk E (.s (.seq ⟨d, .appr e 1 b x y none, none⟩ :: bs)) ks F (⟨B, lp⟩ :: R) Q = Wk E (.s bs) ks (putO (unown F x) d (.bsl R.length (blen B) 0 1 1 e)) (⟨badd B [w], lp⟩ :: R) Q := by
 have h1 : lenAt (⟨B, lp⟩ :: R) R.length = blen B := by simp [lenAt, blen]
 have h2 : addBox (⟨B, lp⟩ :: R) R.length [w] = ⟨badd B [w], lp⟩ :: R := by simp [addBox, badd]
 have h3 : lvOf F (⟨B, lp⟩ :: R) none = some R.length := by simp [lvOf]
 show apprK e 1 b (evO F x) (srcRows (⟨B, lp⟩ :: R) 1 (evO F y)) (lvOf F (⟨B, lp⟩ :: R) none) d F (unown F x) (⟨B, lp⟩ :: R) (fun F S => Wk E (.s bs) ks F S Q) = _
 rw [hx, hy, src1 hg hw, h3]
 apply propext
 constructor
 ·rintro ⟨_, _, _, h⟩
  rw [List.flatten_singleton] at h
  rw [h1, h2] at h
  exact h
 ·intro h
  refine ⟨⟨rfl, by decide, by simp; omega, by simp⟩, ?_⟩
  simp only [List.flatten_singleton]
  refine ⟨by simp [lowL, hl], ho, ?_⟩
  rw [h1, h2]
  exact h
theorem Appr1 {e i j c b : Nat} {x y : Opd} {w : V} {cs : List V} (hx : evO F x = .bsl R.length j 0 c 1 e) (hy : evO F y = .bsl R.length i 0 1 1 e) (hj : bget B j = some cs) (hc : cs.length = c) (hos : noOwn cs = true) (hg : bget B i = some [w]) (hw : strip w = w) (hl : low (R.length + 1) w = true) (ho : noOwn [w] = true) (hb : (c + 1) * b ≤ 140737488355328) (hcc : c + 1 ≤ 140737488355328) :
  Wk E (.s (.seq ⟨d, .appr e 1 b x y none, none⟩ :: bs)) ks F (⟨B, lp⟩ :: R) Q = Wk E (.s bs) ks (putO F d (.bsl R.length (blen B) 0 (c + 1) 1 e)) (⟨badd (bset B j dead) (cs ++ [w]), lp⟩ :: R) Q := by
 have h1 : lenAt (⟨B, lp⟩ :: R) R.length = blen B := by simp [lenAt, blen]
 have h2 : addBox (setBox (⟨B, lp⟩ :: R) R.length j dead) R.length (cs ++ [w]) = ⟨badd (bset B j dead) (cs ++ [w]), lp⟩ :: R := by rw [setBox_top]; simp [addBox, badd]
 have h3 : lvOf F (⟨B, lp⟩ :: R) none = some R.length := by simp [lvOf]
 have h4 : ((getBox (⟨B, lp⟩ :: R) R.length j).bind fun cs => cutL cs 0 (c * 1)) = some cs := by
  rw [getBox_top, hj]; subst hc; simp [cutL]
 show apprK e 1 b (evO F x) (srcRows (⟨B, lp⟩ :: R) 1 (evO F y)) (lvOf F (⟨B, lp⟩ :: R) none) d F (unown F x) (⟨B, lp⟩ :: R) (fun F S => Wk E (.s bs) ks F S Q) = _
 rw [hx, hy, src1 hg hw, h3]
 simp only [apprK, h4, List.flatten_singleton, List.length_singleton]
 rw [h1, h2]
 apply propext
 constructor
 ·rintro ⟨_, _, _, _, h⟩
  exact h
 ·intro h
  exact ⟨⟨by simp, by simp, by simp, by simp, hb, hcc⟩, hos, by simp [lowL, hl], ho, h⟩
end
end Wp
end AM
end Go.Proofs.YtimfbnojmdnlnaaGreat
end
