/- The reference's copies of expressions and bounds; The reference's copies of sets and of the terms of an assignment; law12.marked: other marks. -/
import Derived.Test.YtimfbnojmdnlnaaGreatKSeD
import Derived.Test.YtimfbnojmdnlnaaGreatKM30
import Derived.Test.YtimfbnojmdnlnaaGreatKM24
set_option linter.unusedVariables false
set_option linter.unusedSimpArgs false
set_option maxRecDepth 100000
section
namespace Go.Proofs.YtimfbnojmdnlnaaGreat
open Nat renaming reduceEqDiff → Ra, reduceAdd → Rb, reduceLeDiff → Rc, reduceMul → Rd, reduceSub → Re, reduceLT → Rk
open Int renaming reduceLT → Rf, reduceLE → Rg, reduceEq → Rh, reduceAdd → Ri, reduceNeg → Rj
namespace AM
namespace Wp
theorem rwtR_len {α : Type} {enc : α → List V} (h1 : ∀ x, 1 ≤ wtL (enc x)) : ∀ l : List α, l.length ≤ wtR (l.map enc)
 | [] => by simp
 | x :: l => by
  have := h1 x
  have := rwtR_len h1 l
  simp only [List.map_cons, wtR, List.length_cons]; omega
def rcLin (x : Lin) : Lin := ⟨false, x.c, x.k⟩
def rcRw (r : Rw) : Rw := ⟨rcLin r.l, r.div⟩
def rcPart (q : Part) : Part := ⟨q.rows.isEmpty, q.rows.map rcRw⟩
def rcBound (b : Bound) : Bound := ⟨b.parts.isEmpty, b.parts.map rcPart⟩
end Wp
end AM
end Go.Proofs.YtimfbnojmdnlnaaGreat
end
section
namespace Go.Proofs.YtimfbnojmdnlnaaGreat
open Nat renaming reduceEqDiff → Ra, reduceAdd → Rb, reduceLeDiff → Rc, reduceMul → Rd, reduceSub → Re, reduceLT → Rk
open Int renaming reduceLT → Rf, reduceLE → Rg, reduceEq → Rh, reduceAdd → Ri, reduceNeg → Rj
namespace AM
namespace Wp
def raggC (a : V) : Option V → Option V
 | some (.agg l) => some (.agg (a :: l))
 | _ => none
theorem raggC_some {a : V} {l : List V} : raggC a (some (.agg l)) = some (.agg (a :: l)) := rfl
theorem rcutV_0 {cs : List V} : cutV cs 0 0 true = some (.agg []) := by simp [cutV, cutL, ofCells]
theorem rcutV_g {c : V} {cs : List V} {n : Nat} : cutV (c :: cs) 0 (n + 1) true = raggC (strip c) (cutV cs 0 n true) := by
 simp only [cutV, cutL, List.length_cons, List.drop_zero, Nat.zero_add]
 by_cases h : n ≤ cs.length
 ·rw [if_pos h, if_pos (by omega)]; simp [ofCells, raggC]
 ·rw [if_neg h, if_neg (by omega)]; rfl
def rcCnd (c : Cnd) : Cnd := ⟨c.kind, c.m, rcLin c.l⟩
def rcPiece (q : Piece) : Piece := ⟨q.conds.isEmpty, q.conds.map rcCnd⟩
def rcPSet (t : PSet) : PSet := ⟨t.dim, t.pieces.isEmpty, t.pieces.map rcPiece⟩
mutual
def rcExp : Exp → Exp
 | ⟨op, k, l, r, _, args⟩ => ⟨op, k, rcLin l, ⟨r.a, r.subs.isEmpty, r.subs.map rcLin⟩, args.isEmpty, rcExps args⟩
def rcExps : List Exp → List Exp
 | [] => []
 | x :: xs => rcExp x :: rcExps xs
end
end Wp
end AM
end Go.Proofs.YtimfbnojmdnlnaaGreat
end
section
namespace Go.Proofs.YtimfbnojmdnlnaaGreat
open Nat renaming reduceEqDiff → Ra, reduceAdd → Rb, reduceLeDiff → Rc, reduceMul → Rd, reduceSub → Re, reduceLT → Rk
open Int renaming reduceLT → Rf, reduceLE → Rg, reduceEq → Rh, reduceAdd → Ri, reduceNeg → Rj
namespace AM
namespace Wp
def encU8 (x : Int) : List V := [.int .u8 x]
@[go_sem] theorem len_U8 (x : Int) : (encU8 x).length = 1 := _root_.id rfl
theorem cellsStm (x : Stm) : encStm x = [.int .i64 x.kind, .str x.name, .slice (nk x.low.n) (x.low.parts.map encPart), .slice (nk x.high.n) (x.high.parts.map encPart), .int .i64 x.step, .int .i64 x.mark, .int .i64 x.test.dim, .slice (nk x.test.n) (x.test.pieces.map encPiece),
 .int .i64 x.target.a, .slice (nk x.target.n) (x.target.subs.map encLin), .int .i64 x.value.op, .int .i64 x.value.k, .slice (nk x.value.l.n) (x.value.l.c.map encI), .int .i64 x.value.l.k, .int .i64 x.value.r.a, .slice (nk x.value.r.n) (x.value.r.subs.map encLin), .slice (nk x.value.n) (x.value.args.map encExp),
 .slice (nk x.bn) (x.body.map encStm), .slice (nk x.en) (x.els.map encStm)] := by
 cases x with
 | mk kind name low high step mark test target value bn body en els =>
  cases value
  simp only [encStm, encBound, encPSet, encRef, encExp, encLin, encStms_map, encExps_map, List.cons_append, List.nil_append]
theorem wlStm (x : Stm) : wtL (encStm x) = 4 + wtL (encBound x.low) + wtL (encBound x.high) + wtL (encPSet x.test) + wtL (encRef x.target) + wtL (encExp x.value) + (1 + wtR (x.body.map encStm)) + (1 + wtR (x.els.map encStm)) := by
 cases x
 simp only [encStm, wtL_append, wtL, wt, encStms_map]; omega
def markV (ms : List Int) (m : Int) (n : Nat) : Int := match ms[n % ms.length]? with | some y => y.tmod 3 | none => m
mutual
def mkStm (ms : List Int) : Stm → Nat → Stm × Nat
 | ⟨kind, name, low, high, step, mark, test, target, value, bn, body, en, els⟩, n =>
  (⟨kind, name, low, high, step, if kind = 1 then markV ms mark n else mark, test, target, value, (mkStms ms body (if kind = 1 then n + 1 else n)).1.isEmpty, (mkStms ms body (if kind = 1 then n + 1 else n)).1,
   (mkStms ms els (mkStms ms body (if kind = 1 then n + 1 else n)).2).1.isEmpty, (mkStms ms els (mkStms ms body (if kind = 1 then n + 1 else n)).2).1⟩, (mkStms ms els (mkStms ms body (if kind = 1 then n + 1 else n)).2).2)
def mkStms (ms : List Int) : List Stm → Nat → List Stm × Nat
 | [], n => ([], n)
 | x :: xs, n => ((mkStm ms x n).1 :: (mkStms ms xs (mkStm ms x n).2).1, (mkStms ms xs (mkStm ms x n).2).2)
end
theorem mkStms_snoc {ms : List Int} {x : Stm} : ∀ {l : List Stm} {n : Nat}, mkStms ms (l ++ [x]) n = ((mkStms ms l n).1 ++ [(mkStm ms x (mkStms ms l n).2).1], (mkStm ms x (mkStms ms l n).2).2)
 | [], n => by simp [mkStms]
 | y :: l, n => by simp only [List.cons_append, mkStms, mkStms_snoc (l := l), List.cons_append]
theorem mk_len {ms : List Int} : ∀ {l : List Stm} {n : Nat}, (mkStms ms l n).1.length = l.length
 | [], n => by simp [mkStms]
 | y :: l, n => by simp only [mkStms, List.length_cons, mk_len (l := l)]
theorem mk_bound_list {ms : List Int} : ∀ {l : List Stm}, (∀ y ∈ l, ∀ n, (mkStm ms y n).2 ≤ n + wtL (encStm y)) → ∀ n, (mkStms ms l n).2 ≤ n + wtR (l.map encStm)
 | [], _, n => by simp [mkStms]
 | y :: l, h, n => by
  simp only [mkStms, List.map_cons, wtR]
  have h1 := h y (by simp) n
  have h2 := mk_bound_list (l := l) (fun z hz => h z (List.mem_cons_of_mem _ hz)) (mkStm ms y n).2
  omega
theorem mk_bound {ms : List Int} : ∀ y n, (mkStm ms y n).2 ≤ n + wtL (encStm y) := by
 refine Stm.ind fun x ihb ihe n => ?_
 have hb := mk_bound_list ihb
 have he := mk_bound_list ihe
 rw [wlStm]
 cases x with
 | mk kind name low high step mark test target value bn body en els =>
  simp only [mkStm] at hb he ⊢
  have h1 := hb (if kind = 1 then n + 1 else n)
  have h2 := he (mkStms ms body (if kind = 1 then n + 1 else n)).2
  split at h1 <;> split at h2 <;> split <;> first | omega | contradiction
theorem mk_cells {ms : List Int} {x : Stm} {n : Nat} : encStm (mkStm ms x n).1 = [.int .i64 x.kind, .str x.name, .slice (nk x.low.n) (x.low.parts.map encPart), .slice (nk x.high.n) (x.high.parts.map encPart), .int .i64 x.step, .int .i64 (if x.kind = 1 then markV ms x.mark n else x.mark), .int .i64 x.test.dim, .slice (nk x.test.n) (x.test.pieces.map encPiece),
 .int .i64 x.target.a, .slice (nk x.target.n) (x.target.subs.map encLin), .int .i64 x.value.op, .int .i64 x.value.k, .slice (nk x.value.l.n) (x.value.l.c.map encI), .int .i64 x.value.l.k, .int .i64 x.value.r.a, .slice (nk x.value.r.n) (x.value.r.subs.map encLin), .slice (nk x.value.n) (x.value.args.map encExp),
 .slice (nk (mkStms ms x.body (if x.kind = 1 then n + 1 else n)).1.isEmpty) ((mkStms ms x.body (if x.kind = 1 then n + 1 else n)).1.map encStm), .slice (nk (mkStms ms x.els (mkStms ms x.body (if x.kind = 1 then n + 1 else n)).2).1.isEmpty) ((mkStms ms x.els (mkStms ms x.body (if x.kind = 1 then n + 1 else n)).2).1.map encStm)] := by
 rw [cellsStm]
 cases x
 rfl
theorem mk_snd {ms : List Int} {x : Stm} {n : Nat} : (mkStm ms x n).2 = (mkStms ms x.els (mkStms ms x.body (if x.kind = 1 then n + 1 else n)).2).2 := by
 cases x; rfl
def MkSp (ms : List Int) (bm : Bool) (lv i : Nat) (l : List Stm) : Prop := ∀ (b : Bool) (n : Nat) (S : St), n + wtR (l.map encStm) ≤ 1000000000 → getBox S lv i = some [.int .i64 (n : Int)] →
 CallIs theEnv (.fn 32) [.slice (nk b) (l.map encStm), .slice (nk bm) (ms.map encU8), .ptr lv i 0] S (.ret (grown 53 ((mkStms ms l n).1.map encStm))) (setBox S lv i [.int .i64 ((mkStms ms l n).2 : Int)])
theorem marked_list {ms : List Int} {bm : Bool} {lv i : Nat} (hms : ∀ m ∈ ms, 0 ≤ m ∧ m ≤ 255) (hml : ms.length ≤ 1000000000) {l : List Stm} (hl : ∀ x ∈ l, MkSp ms bm lv i x.body ∧ MkSp ms bm lv i x.els) : MkSp ms bm lv i l := by
 intro b n S hn hb
 have hlen := rwtR_len (enc := encStm) (fun x => by rw [wlStm]; omega) l
 refine CallIs.fn rfl rfl rfl ?_
 have g1 := fun T => getBox_up (T := T) hb
 have g3 : ∀ v, dz (some [v]) = some [v] → getBox (setBox S lv i [v]) lv i = some [v] := fun v hv => getBox_set hv hb
 have g5 := fun T v hv => getBox_up (T := T) (g3 v hv)
 have g7 : ∀ T v w, setBox (T :: setBox S lv i v) lv i w = T :: setBox S lv i w := fun T v w => by rw [setBox_below (by rw [len_setBox]; have := getBox_lt hb; omega), setBox_setBox]
 have hself := setBox_self hb
 simp only [a32, c32, go_sem,Ra,Rb,Rc,Rd,Re,Rf,Rg,Rh,Ri,Rj,reduceIte,reduceCtorEq,Rk]
 refine Run_range l.length [1, 2, 10] [7] (fun k vs S' => vs = [grown 53 ((mkStms ms (l.take k) n).1.map encStm)] ∧ ∃ B, S' = ⟨B, none⟩ :: setBox S lv i [.int .i64 ((mkStms ms (l.take k) n).2 : Int)]) (Nat.le_trans (show l.length ≤ 1000000000 by omega) (by decide)) sx sx rfl rfl rfl rfl sx ⟨by simp only [go_sem,Ra,Rb,Rc,Rd,Re,Rf,Rg,Rh,Ri,Rj,reduceIte,reduceCtorEq,Rk, List.take_zero, mkStms, List.map_nil, grown_nil], [], by simp only [List.take_zero, mkStms, hself]⟩ ?_ ?_
 ·rintro k F _ hk ⟨hv, B, rfl⟩ hi hkept
  simp only [go_sem,Ra,Rb,Rc,Rd,Re,Rf,Rg,Rh,Ri,Rj,reduceIte,reduceCtorEq,Rk] at hkept hv
  obtain ⟨x, hx⟩ : ∃ y, l[k]? = some y := ⟨l[k], List.getElem?_eq_getElem hk⟩
  have hm := List.mem_of_getElem? hx
  obtain ⟨hbb, hbe⟩ := hl x hm
  have hia : ∀ (K : SK) (kk : IntKind), iaO 19 (.slice K (l.map encStm)) (.int kk (k : Int)) = some (.look (encStm x)) := fun K kk => by rw [iaO_map hx, if_pos (len_Stm x)]
  rw [take_snoc' hx, mkStms_snoc]
  have hnk : (mkStms ms (l.take k) n).2 + wtL (encStm x) ≤ 1000000000 := by
   have h1 := mk_bound_list (ms := ms) (l := l.take k) (fun y _ => mk_bound y) n
   have h2 : wtR ((l.take k).map encStm) + wtL (encStm x) ≤ wtR (l.map encStm) := by
    have e : l = l.take k ++ (x :: l.drop (k + 1)) := by
     have h1 := (List.getElem?_eq_some_iff.1 hx).2
     rw [← h1, List.getElem_cons_drop, List.take_append_drop]
    have h3 : ∀ (a b : List (List V)), wtR (a ++ b) = wtR a + wtR b := by
     intro a b
     induction a with
     | nil => simp [wtR]
     | cons c a ih => simp only [List.cons_append, wtR, ih]; omega
    conv => rhs; rw [e, List.map_append, h3, List.map_cons, wtR]
    omega
   omega
  generalize hN : (mkStms ms (l.take k) n).2 = N at hnk
  have hpre : ((mkStms ms (l.take k) n).1).length ≤ 1000000000 := by rw [mk_len]; simp; omega
  generalize (mkStms ms (l.take k) n).1 = P at hv hpre ⊢
  have e0 := cellsStm x
  rw [e0] at hia
  have hw1 : IntKind.i64.wrap ((N : Int) + 1) = ((N + 1 : Nat) : Int) := wrap64 (by omega) (by omega)
  rw [wlStm] at hnk
  have hB : ∀ (N1 : Nat) (cs : List V), N1 ≤ N + 1 → CallIs theEnv (.fn 32) [.slice (nk x.bn) (x.body.map encStm), .slice (nk bm) (ms.map encU8), .ptr lv i 0] (⟨B ++ [cs], none⟩ :: setBox S lv i [.int .i64 (N1 : Int)]) (.ret (grown 53 ((mkStms ms x.body N1).1.map encStm))) (⟨B ++ [cs], none⟩ :: setBox S lv i [.int .i64 ((mkStms ms x.body N1).2 : Int)]) := fun N1 cs h => by
   have := hbb x.bn N1 (⟨B ++ [cs], none⟩ :: setBox S lv i [.int .i64 (N1 : Int)]) (by omega) (g5 _ _ rfl)
   rwa [g7] at this
  have hE : ∀ (N1 : Nat) (cs : List V), N1 ≤ N + 1 + wtR (x.body.map encStm) → CallIs theEnv (.fn 32) [.slice (nk x.en) (x.els.map encStm), .slice (nk bm) (ms.map encU8), .ptr lv i 0] (⟨B ++ [cs], none⟩ :: setBox S lv i [.int .i64 (N1 : Int)]) (.ret (grown 53 ((mkStms ms x.els N1).1.map encStm))) (⟨B ++ [cs], none⟩ :: setBox S lv i [.int .i64 ((mkStms ms x.els N1).2 : Int)]) := fun N1 cs h => by
   have := hbe x.en N1 (⟨B ++ [cs], none⟩ :: setBox S lv i [.int .i64 (N1 : Int)]) (by omega) (g5 _ _ rfl)
   rwa [g7] at this
  have hbd := mk_bound_list (ms := ms) (l := x.body) (fun y _ => mk_bound y)
  have e1 := mk_cells (ms := ms) (x := x) (n := N)
  have g := app_gr (enc := encStm) (e := 53) (n := 19) (b := 304) (k := .own 53) (l := P) (x := (mkStm ms x N).1) (len_Stm _) hpre (by decide)
  rw [e1] at g
  rw [mk_snd]
  by_cases h1 : x.kind = 1
  ·simp only [h1, if_true] at g e0 hia ⊢
   by_cases h0 : ms = []
   ·have hmv : markV ms x.mark N = x.mark := by rw [h0]; rfl
    have hb2 := fun cs => hB (N + 1) cs (Nat.le_refl _)
    have he2 := fun cs => hE (mkStms ms x.body (N + 1)).2 cs (hbd _)
    rw [hmv] at g
    simp only [h0, List.map_nil] at hkept hb2 he2 g ⊢
    simp only [go_sem,Ra,Rb,Rc,Rd,Re,Rf,Rg,Rh,Ri,Rj,reduceIte,reduceCtorEq,Rk, hkept, hi, hia, hv, g5, g7, hw1, rcutV_g, rcutV_0, raggC_some, CallP (hb2 _), CallP (he2 _), List.isEmpty_map, strip_grown, g]
   ·have hp : 0 < ms.length := by cases ms with | nil => exact absurd rfl h0 | cons a l => simp
    obtain ⟨y, hy⟩ : ∃ y, ms[N % ms.length]? = some y := ⟨ms[N % ms.length]'(Nat.mod_lt _ hp), List.getElem?_eq_getElem _⟩
    have hym := hms y (List.mem_of_getElem? hy)
    have hmv : markV ms x.mark N = y.tmod 3 := by simp only [markV, hy]
    have hyia : ∀ (K : SK) (kk : IntKind), iaO 1 (.slice K (ms.map encU8)) (.int kk ((N % ms.length : Nat) : Int)) = some (.look [.int .u8 y]) := fun K kk => by rw [iaO_map hy, if_pos (len_U8 y)]; rfl
    have hb2 := fun cs => hB (N + 1) cs (Nat.le_refl _)
    have he2 := fun cs => hE (mkStms ms x.body (N + 1)).2 cs (hbd _)
    rw [hmv] at g
    have hlt : (0 : Int) < (ms.length : Int) := by omega
    have hr1 : bin .rem 0 (.int .i64 (N : Int)) (.int .i64 (ms.length : Int)) = some (.int .i64 ((N % ms.length : Nat) : Int)) := by
     have h3 : (N : Int).tmod (ms.length : Int) = ((N % ms.length : Nat) : Int) := by rw [Int.tmod_eq_emod_of_nonneg (by omega)]; simp
     have h4 : (ms.length : Int) ≠ 0 := by omega
     have h5 := Nat.mod_lt N hp
     rw [bin_rem h4, h3]
    have hr2 : bin .rem 0 (.int .u8 y) (.int .u8 3) = some (.int .u8 (y.tmod 3)) := by
     exact bin_rem (by decide)
    have hr4 : cvO .i64 (.int .u8 (y.tmod 3)) = some (.int .i64 (y.tmod 3)) := by
     have h1 := Int.tmod_lt_of_pos y (show (0 : Int) < 3 by decide)
     have h2 := Int.tmod_nonneg 3 hym.1
     show some (V.int .i64 (IntKind.i64.wrap (y.tmod 3))) = _
     rw [show IntKind.i64.wrap (y.tmod 3) = y.tmod 3 from wrap64 (by omega) (by omega)]
    simp only [go_sem,Ra,Rb,Rc,Rd,Re,Rf,Rg,Rh,Ri,Rj,reduceIte,reduceCtorEq,Rk, hkept, hi, hia, hv, g5, g7, hw1, hp, hlt, hr1, hr2, hr4, hyia, rcutV_g, rcutV_0, raggC_some, CallP (hb2 _), CallP (he2 _), List.isEmpty_map, strip_grown, g]
  ·simp only [h1, if_false] at g e0 hia ⊢
   have hb2 := fun cs => hB N cs (by omega)
   have he2 := fun cs => hE (mkStms ms x.body N).2 cs (by have := hbd N; omega)
   simp only [go_sem,Ra,Rb,Rc,Rd,Re,Rf,Rg,Rh,Ri,Rj,reduceIte,reduceCtorEq,Rk, hkept, hi, hia, hv, h1, g5, g7, hw1, rcutV_g, rcutV_0, raggC_some, CallP (hb2 _), CallP (he2 _), List.isEmpty_map, strip_grown, g]
 ·rintro F _ ⟨hv, B, rfl⟩ hkept
  simp only [go_sem,Ra,Rb,Rc,Rd,Re,Rf,Rg,Rh,Ri,Rj,reduceIte,reduceCtorEq,Rk] at hkept hv
  rw [List.take_length] at hv
  simp only [go_sem,Ra,Rb,Rc,Rd,Re,Rf,Rg,Rh,Ri,Rj,reduceIte,reduceCtorEq,Rk, hkept, hv, List.take_length]
theorem marked_stm {ms : List Int} {bm : Bool} {lv i : Nat} (hms : ∀ m ∈ ms, 0 ≤ m ∧ m ≤ 255) (hml : ms.length ≤ 1000000000) : ∀ x : Stm, MkSp ms bm lv i x.body ∧ MkSp ms bm lv i x.els :=
 Stm.ind fun x ihb ihe => ⟨marked_list hms hml ihb, marked_list hms hml ihe⟩
end Wp
end AM
end Go.Proofs.YtimfbnojmdnlnaaGreat
end
