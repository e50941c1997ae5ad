/- run.Fresh; The reference's Fresh. -/
import Derived.Test.YtimfbnojmdnlnaaGreatKM30
set_option linter.all false
set_option maxRecDepth 100000
section
namespace Go.Proofs.YtimfbnojmdnlnaaGreat
namespace AM
namespace Wp
def memV (c : Bool) (l : List (List Int)) : V := if c = true then .slice .shut (l.map fun r => encMem ⟨false,r⟩) else .slice .nil []
def cellsL (p : Prg) (ps : List Int) : List Int := (shapesOf ps p.arrays).map (·.cells)
end Wp
end AM
end Go.Proofs.YtimfbnojmdnlnaaGreat
end
section
namespace Go.Proofs.YtimfbnojmdnlnaaGreat
namespace AM
namespace Wp
section
variable {E : Env} {ks : List KI} {F : Fr} {S R : St} {Q : Ex → Fr → St → Prop} {bs : List Blk} {d : Option Nat} {B : List (List V)} {lp : Option Lp}
end
@[go_sem] theorem strip_rowsV {c : Bool} {l : List (List Int)} : strip (rowsV c l) = rowsV c l := by
 cases c
 ·rfl
 ·exact strip_nk
@[go_sem] theorem cp_rowsV {c : Bool} {l : List (List Int)} : cp (rowsV c l) = some (rowsV c l) := by
 cases c
 ·rfl
 ·exact cp_nk
@[go_sem] theorem tame_rowsV {c : Bool} {l : List (List Int)} : tame (rowsV c l) = true := by cases c <;> rfl
@[go_sem] theorem strip_intsV {c : Bool} {l : List Int} : strip (intsV c l) = intsV c l := by
 cases c
 ·rfl
 ·exact strip_nk
@[go_sem] theorem cp_intsV {c : Bool} {l : List Int} : cp (intsV c l) = some (intsV c l) := by
 cases c
 ·rfl
 ·exact cp_nk
@[go_sem] theorem tame_intsV {c : Bool} {l : List Int} : tame (intsV c l) = true := by cases c <;> rfl
end Wp
end AM
end Go.Proofs.YtimfbnojmdnlnaaGreat
end
