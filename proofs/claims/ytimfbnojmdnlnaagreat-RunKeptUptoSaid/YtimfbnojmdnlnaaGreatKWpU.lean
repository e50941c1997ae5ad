/- The data, within bounds; equality of their cells, field by field. -/
import Derived.Test.YtimfbnojmdnlnaaGreatKWpT
import Derived.Test.YtimfbnojmdnlnaaGreatKSaC
set_option linter.unusedVariables false
set_option linter.unusedSimpArgs false
namespace Go.Proofs.YtimfbnojmdnlnaaGreat
namespace AM
namespace Wp
abbrev LIM : Nat := 9223372036854775807
def inI (x : Int) : Prop := -9223372036854775808 ≤ x ∧ x ≤ 9223372036854775807
structure OkLin (x : Lin) : Prop where
 c : x.c.length ≤ LIM
 ci : ∀ i ∈ x.c, inI i
 k : inI x.k
 z : x.n = true → x.c = []
structure OkRef (x : Ref) : Prop where
 a : inI x.a
 l : x.subs.length ≤ LIM
 s : ∀ y ∈ x.subs, OkLin y
 z : x.n = true → x.subs = []
inductive OkExp : Exp → Prop where
 | mk (x : Exp) (op : inI x.op) (k : inI x.k) (l : OkLin x.l) (r : OkRef x.r) (n : x.args.length ≤ LIM) (s : ∀ y ∈ x.args, OkExp y) (z : x.n = true → x.args = []) : OkExp x
structure OkRw (x : Rw) : Prop where
 l : OkLin x.l
 d : inI x.div
structure OkPart (x : Part) : Prop where
 l : x.rows.length ≤ LIM
 s : ∀ y ∈ x.rows, OkRw y
 z : x.n = true → x.rows = []
structure OkBound (x : Bound) : Prop where
 l : x.parts.length ≤ LIM
 s : ∀ y ∈ x.parts, OkPart y
 z : x.n = true → x.parts = []
structure OkCnd (x : Cnd) : Prop where
 k : inI x.kind
 m : inI x.m
 l : OkLin x.l
structure OkPiece (x : Piece) : Prop where
 l : x.conds.length ≤ LIM
 s : ∀ y ∈ x.conds, OkCnd y
 z : x.n = true → x.conds = []
structure OkPSet (x : PSet) : Prop where
 d : inI x.dim
 l : x.pieces.length ≤ LIM
 s : ∀ y ∈ x.pieces, OkPiece y
 z : x.n = true → x.pieces = []
inductive OkStm : Stm → Prop where
 | mk (x : Stm) (kind : inI x.kind) (name : x.name.size ≤ LIM) (low : OkBound x.low) (high : OkBound x.high) (step : inI x.step) (mark : inI x.mark) (test : OkPSet x.test) (target : OkRef x.target) (value : OkExp x.value)
  (bn : x.body.length ≤ LIM) (body : ∀ y ∈ x.body, OkStm y) (en : x.els.length ≤ LIM) (els : ∀ y ∈ x.els, OkStm y) (bz : x.bn = true → x.body = []) (ez : x.en = true → x.els = []) : OkStm x
structure OkArr (x : Arr) : Prop where
 name : x.name.size ≤ LIM
 l : x.sizes.length ≤ LIM
 s : ∀ y ∈ x.sizes, OkLin y
 z : x.n = true → x.sizes = []
structure OkPrg (x : Prg) : Prop where
 pz : x.pn = true → x.params = []
 pl : x.params.length ≤ LIM
 ps : ∀ s ∈ x.params, s.size ≤ LIM
 al : x.arrays.length ≤ LIM
 as : ∀ y ∈ x.arrays, OkArr y
 bl : x.body.length ≤ LIM
 bs : ∀ y ∈ x.body, OkStm y
 az : x.an = true → x.arrays = []
 bz : x.bn = true → x.body = []
section
variable {x : Exp}
theorem OkExp.z' (h : OkExp x) : x.n = true → x.args = [] := by cases h; assumption
theorem OkExp.op' (h : OkExp x) : inI x.op := by cases h; assumption
theorem OkExp.k' (h : OkExp x) : inI x.k := by cases h; assumption
theorem OkExp.l' (h : OkExp x) : OkLin x.l := by cases h; assumption
theorem OkExp.r' (h : OkExp x) : OkRef x.r := by cases h; assumption
theorem OkExp.n' (h : OkExp x) : x.args.length ≤ LIM := by cases h; assumption
theorem OkExp.s' (h : OkExp x) : ∀ y ∈ x.args, OkExp y := by cases h; assumption
end
section
variable {x : Stm}
theorem OkStm.low' (h : OkStm x) : OkBound x.low := by cases h; assumption
theorem OkStm.high' (h : OkStm x) : OkBound x.high := by cases h; assumption
theorem OkStm.test' (h : OkStm x) : OkPSet x.test := by cases h; assumption
theorem OkStm.target' (h : OkStm x) : OkRef x.target := by cases h; assumption
theorem OkStm.value' (h : OkStm x) : OkExp x.value := by cases h; assumption
theorem OkStm.bn' (h : OkStm x) : x.body.length ≤ LIM := by cases h; assumption
theorem OkStm.body' (h : OkStm x) : ∀ y ∈ x.body, OkStm y := by cases h; assumption
theorem OkStm.en' (h : OkStm x) : x.els.length ≤ LIM := by cases h; assumption
theorem OkStm.els' (h : OkStm x) : ∀ y ∈ x.els, OkStm y := by cases h; assumption
end
theorem Exp.ind {P : Exp → Prop} (h : ∀ x, (∀ y ∈ x.args, P y) → P x) : ∀ x, P x
 | ⟨op, k, l, r, n, args⟩ => h _ fun y hy => by
  have := List.sizeOf_lt_of_mem hy
  exact Exp.ind h y
 termination_by x => SizeOf.sizeOf x
 decreasing_by simp; simp at hy; have := List.sizeOf_lt_of_mem hy; omega
theorem Stm.ind {P : Stm → Prop} (h : ∀ x, (∀ y ∈ x.body, P y) → (∀ y ∈ x.els, P y) → P x) : ∀ x, P x
 | ⟨a, b, c, d, e, f, g, i, j, k, body, n, els⟩ => h _ (fun y hy => Stm.ind h y) (fun y hy => Stm.ind h y)
 termination_by x => SizeOf.sizeOf x
 decreasing_by
 all_goals simp; simp at hy; have := List.sizeOf_lt_of_mem hy; omega
theorem eqv_int {k k' : IntKind} {a b : Int} : eqv (.int k a) (.int k' b) = decide (a = b) := by simp only [eqv]; rfl
theorem eqv_str {a b : ByteArray} : eqv (.str a) (.str b) = decide (a = b) := by simp only [eqv, str_eq]
theorem eqv_slice {k k' : SK} {a b : List (List V)} : eqv (.slice k a) (.slice k' b) = eqvR a b := by simp only [eqv]
theorem eqvL_append : ∀ {a a' b b' : List V}, a.length = a'.length → eqvL (a ++ b) (a' ++ b') = (eqvL a a' && eqvL b b')
 | [], [], _, _, _ => by simp [eqvL]
 | [], _ :: _, _, _, h => by cases h
 | _ :: _, [], _, _, h => by cases h
 | x :: a, y :: a', b, b', h => by
  simp only [List.cons_append, eqvL, eqvL_append (a := a) (a' := a') (by simpa using h), Bool.and_assoc]
theorem eqv_Lin {a b : Lin} : eqvL (encLin a) (encLin b) = (decide (a.k = b.k) && eqvR (a.c.map encI) (b.c.map encI)) := by
 simp only [encLin, eqvL, eqv_int, eqv_slice, Bool.and_true]
 exact Bool.and_comm _ _
theorem eqv_Ref {a b : Ref} : eqvL (encRef a) (encRef b) = (decide (a.a = b.a) && eqvR (a.subs.map encLin) (b.subs.map encLin)) := by
 simp only [encRef, eqvL, eqv_int, eqv_slice, Bool.and_true]
theorem eqv_Exp {a b : Exp} : eqvL (encExp a) (encExp b) = (decide (a.op = b.op) && decide (a.k = b.k) && eqvL (encLin a.l) (encLin b.l) && eqvL (encRef a.r) (encRef b.r) && eqvR (a.args.map encExp) (b.args.map encExp)) := by
 cases a; cases b
 simp only [encExp]
 rw [eqvL_append (by simp [len_Lin, len_Ref]), eqvL_append (by simp [len_Lin]), eqvL_append (by simp)]
 simp only [eqvL, eqv_int, eqv_slice, Bool.and_true, encExps_map]
theorem eqv_Rw {a b : Rw} : eqvL (encRw a) (encRw b) = (eqvL (encLin a.l) (encLin b.l) && decide (a.div = b.div)) := by
 simp only [encRw]
 rw [eqvL_append (by simp [len_Lin])]
 simp only [eqvL, eqv_int, Bool.and_true]
theorem eqv_Part {a b : Part} : eqvL (encPart a) (encPart b) = eqvR (a.rows.map encRw) (b.rows.map encRw) := by
 simp only [encPart, eqvL, eqv_slice, Bool.and_true]
theorem eqv_Bound {a b : Bound} : eqvL (encBound a) (encBound b) = eqvR (a.parts.map encPart) (b.parts.map encPart) := by
 simp only [encBound, eqvL, eqv_slice, Bool.and_true]
theorem eqv_Cnd {a b : Cnd} : eqvL (encCnd a) (encCnd b) = (decide (a.kind = b.kind) && decide (a.m = b.m) && eqvL (encLin a.l) (encLin b.l)) := by
 simp only [encCnd]
 rw [eqvL_append (by simp)]
 simp only [eqvL, eqv_int, Bool.and_true]
theorem eqv_Piece {a b : Piece} : eqvL (encPiece a) (encPiece b) = eqvR (a.conds.map encCnd) (b.conds.map encCnd) := by
 simp only [encPiece, eqvL, eqv_slice, Bool.and_true]
theorem eqv_PSet {a b : PSet} : eqvL (encPSet a) (encPSet b) = (decide (a.dim = b.dim) && eqvR (a.pieces.map encPiece) (b.pieces.map encPiece)) := by
 simp only [encPSet, eqvL, eqv_int, eqv_slice, Bool.and_true]
theorem eqv_Arr {a b : Arr} : eqvL (encArr a) (encArr b) = (decide (a.name = b.name) && eqvR (a.sizes.map encLin) (b.sizes.map encLin)) := by
 simp only [encArr, eqvL, eqv_str, eqv_slice, Bool.and_true]
theorem eqv_Prg {a b : Prg} : eqvL (encPrg a) (encPrg b) = (eqvR (a.params.map encS) (b.params.map encS) && (eqvR (a.arrays.map encArr) (b.arrays.map encArr) && eqvR (a.body.map encStm) (b.body.map encStm))) := by
 simp only [encPrg, eqvL, eqv_slice, Bool.and_true, encStms_map]
theorem eqv_Stm {a b : Stm} : eqvL (encStm a) (encStm b) = (decide (a.kind = b.kind) && decide (a.name = b.name) && eqvL (encBound a.low) (encBound b.low) && eqvL (encBound a.high) (encBound b.high) && decide (a.step = b.step) && decide (a.mark = b.mark) && eqvL (encPSet a.test) (encPSet b.test) && eqvL (encRef a.target) (encRef b.target) && eqvL (encExp a.value) (encExp b.value) && eqvR (a.body.map encStm) (b.body.map encStm) && eqvR (a.els.map encStm) (b.els.map encStm)) := by
 obtain ⟨a1, a2, a3, a4, a5, a6, a7, a8, a9, a10, a11, a12, a13⟩ := a
 obtain ⟨b1, b2, b3, b4, b5, b6, b7, b8, b9, b10, b11, b12, b13⟩ := b
 simp only [encStm]
 rw [eqvL_append (by simp [len_Bound, len_PSet, len_Ref, len_Exp]), eqvL_append (by simp [len_Bound, len_PSet, len_Ref, len_Exp]), eqvL_append (by simp [len_Bound, len_PSet, len_Ref]), eqvL_append (by simp [len_Bound, len_PSet]), eqvL_append (by simp [len_Bound]), eqvL_append (by simp [len_Bound]), eqvL_append (by simp)]
 simp only [eqvL, eqv_int, eqv_str, eqv_slice, Bool.and_true, encStms_map, Bool.and_assoc]
end Wp
end AM
end Go.Proofs.YtimfbnojmdnlnaaGreat
