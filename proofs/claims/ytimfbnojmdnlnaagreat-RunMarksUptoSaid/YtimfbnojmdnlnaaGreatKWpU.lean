/- The data, within bounds; equality of their cells, field by field. -/
import Derived.Test.YtimfbnojmdnlnaaGreatKWpT
import Derived.Test.YtimfbnojmdnlnaaGreatKSaC
set_option linter.unusedVariables false
set_option linter.unusedSimpArgs false
namespace Go.Proofs.YtimfbnojmdnlnaaGreat
namespace AM
namespace Wp
abbrev LIM : Nat := 9223372036854775807
def inI (x : Int) : Prop := -9223372036854775808 ≤ x ∧ x ≤ 9223372036854775807
structure OkLin (x : Lin) : Prop where
 c : x.c.length ≤ LIM
 ci : ∀ i ∈ x.c, inI i
 k : inI x.k
 z : x.n = true → x.c = []
structure OkRef (x : Ref) : Prop where
 a : inI x.a
 l : x.subs.length ≤ LIM
 s : ∀ y ∈ x.subs, OkLin y
 z : x.n = true → x.subs = []
inductive OkExp : Exp → Prop where
 | mk (x : Exp) (op : inI x.op) (k : inI x.k) (l : OkLin x.l) (r : OkRef x.r) (n : x.args.length ≤ LIM) (s : ∀ y ∈ x.args, OkExp y) (z : x.n = true → x.args = []) : OkExp x
structure OkRw (x : Rw) : Prop where
 l : OkLin x.l
 d : inI x.div
structure OkPart (x : Part) : Prop where
 l : x.rows.length ≤ LIM
 s : ∀ y ∈ x.rows, OkRw y
 z : x.n = true → x.rows = []
structure OkBound (x : Bound) : Prop where
 l : x.parts.length ≤ LIM
 s : ∀ y ∈ x.parts, OkPart y
 z : x.n = true → x.parts = []
structure OkCnd (x : Cnd) : Prop where
 k : inI x.kind
 m : inI x.m
 l : OkLin x.l
structure OkPiece (x : Piece) : Prop where
 l : x.conds.length ≤ LIM
 s : ∀ y ∈ x.conds, OkCnd y
 z : x.n = true → x.conds = []
structure OkPSet (x : PSet) : Prop where
 d : inI x.dim
 l : x.pieces.length ≤ LIM
 s : ∀ y ∈ x.pieces, OkPiece y
 z : x.n = true → x.pieces = []
inductive OkStm : Stm → Prop where
 | mk (x : Stm) (kind : inI x.kind) (name : x.name.size ≤ LIM) (low : OkBound x.low) (high : OkBound x.high) (step : inI x.step) (mark : inI x.mark) (test : OkPSet x.test) (target : OkRef x.target) (value : OkExp x.value)
  (bn : x.body.length ≤ LIM) (body : ∀ y ∈ x.body, OkStm y) (en : x.els.length ≤ LIM) (els : ∀ y ∈ x.els, OkStm y) (bz : x.bn = true → x.body = []) (ez : x.en = true → x.els = []) : OkStm x
structure OkArr (x : Arr) : Prop where
 name : x.name.size ≤ LIM
 l : x.sizes.length ≤ LIM
 s : ∀ y ∈ x.sizes, OkLin y
 z : x.n = true → x.sizes = []
structure OkPrg (x : Prg) : Prop where
 pz : x.pn = true → x.params = []
 pl : x.params.length ≤ LIM
 ps : ∀ s ∈ x.params, s.size ≤ LIM
 al : x.arrays.length ≤ LIM
 as : ∀ y ∈ x.arrays, OkArr y
 bl : x.body.length ≤ LIM
 bs : ∀ y ∈ x.body, OkStm y
 az : x.an = true → x.arrays = []
 bz : x.bn = true → x.body = []
section
variable {x : Exp}
theorem OkExp.z' (h : OkExp x) : x.n = true → x.args = [] := by cases h; assumption
theorem OkExp.op' (h : OkExp x) : inI x.op := by cases h; assumption
theorem OkExp.k' (h : OkExp x) : inI x.k := by cases h; assumption
theorem OkExp.l' (h : OkExp x) : OkLin x.l := by cases h; assumption
theorem OkExp.r' (h : OkExp x) : OkRef x.r := by cases h; assumption
theorem OkExp.n' (h : OkExp x) : x.args.length ≤ LIM := by cases h; assumption
theorem OkExp.s' (h : OkExp x) : ∀ y ∈ x.args, OkExp y := by cases h; assumption
end
section
variable {x : Stm}
theorem OkStm.name' (h : OkStm x) : x.name.size ≤ LIM := by cases h; assumption
theorem OkStm.kind' (h : OkStm x) : inI x.kind := by cases h; assumption
theorem OkStm.step' (h : OkStm x) : inI x.step := by cases h; assumption
theorem OkStm.mark' (h : OkStm x) : inI x.mark := by cases h; assumption
theorem OkStm.low' (h : OkStm x) : OkBound x.low := by cases h; assumption
theorem OkStm.high' (h : OkStm x) : OkBound x.high := by cases h; assumption
theorem OkStm.test' (h : OkStm x) : OkPSet x.test := by cases h; assumption
theorem OkStm.target' (h : OkStm x) : OkRef x.target := by cases h; assumption
theorem OkStm.value' (h : OkStm x) : OkExp x.value := by cases h; assumption
theorem OkStm.bn' (h : OkStm x) : x.body.length ≤ LIM := by cases h; assumption
theorem OkStm.body' (h : OkStm x) : ∀ y ∈ x.body, OkStm y := by cases h; assumption
theorem OkStm.en' (h : OkStm x) : x.els.length ≤ LIM := by cases h; assumption
theorem OkStm.els' (h : OkStm x) : ∀ y ∈ x.els, OkStm y := by cases h; assumption
end
theorem Exp.ind {P : Exp → Prop} (h : ∀ x, (∀ y ∈ x.args, P y) → P x) : ∀ x, P x
 | ⟨op, k, l, r, n, args⟩ => h _ fun y hy => by
  have := List.sizeOf_lt_of_mem hy
  exact Exp.ind h y
 termination_by x => SizeOf.sizeOf x
 decreasing_by simp; simp at hy; have := List.sizeOf_lt_of_mem hy; omega
theorem Stm.ind {P : Stm → Prop} (h : ∀ x, (∀ y ∈ x.body, P y) → (∀ y ∈ x.els, P y) → P x) : ∀ x, P x
 | ⟨a, b, c, d, e, f, g, i, j, k, body, n, els⟩ => h _ (fun y hy => Stm.ind h y) (fun y hy => Stm.ind h y)
 termination_by x => SizeOf.sizeOf x
 decreasing_by
 all_goals simp; simp at hy; have := List.sizeOf_lt_of_mem hy; omega
end Wp
end AM
end Go.Proofs.YtimfbnojmdnlnaaGreat
