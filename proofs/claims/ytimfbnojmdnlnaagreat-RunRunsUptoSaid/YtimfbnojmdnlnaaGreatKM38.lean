/- run.Fresh; The reference's Fresh. -/
import Derived.Test.YtimfbnojmdnlnaaGreatKM30
set_option linter.all false
set_option maxRecDepth 100000
section
namespace Go.Proofs.YtimfbnojmdnlnaaGreat
namespace AM
namespace Wp
def memV (c : Bool) (l : List (List Int)) : V := if c = true then .slice .shut (l.map fun r => encMem ⟨false,r⟩) else .slice .nil []
def cellsL (p : Prg) (ps : List Int) : List Int := (shapesOf ps p.arrays).map (·.cells)
end Wp
end AM
end Go.Proofs.YtimfbnojmdnlnaaGreat
end
section
namespace Go.Proofs.YtimfbnojmdnlnaaGreat
namespace AM
namespace Wp
section
variable {E : Env} {ks : List KI} {F : Fr} {S R : St} {Q : Ex → Fr → St → Prop} {bs : List Blk} {d : Option Nat} {B : List (List V)} {lp : Option Lp}
theorem Rowr1 {e : Nat} {x : Opd} {w : V} (hx : cellsOf (strip (evO F x)) = some [w]) (hl : low (R.length + 1) w = true) :
  Wk E (.s (.seq ⟨d, .rowr e 1 [x],none⟩ :: bs)) ks F (⟨B,lp⟩ :: R) Q = Wk E (.s bs) ks (putO F d (.bsl R.length (blen B) 0 1 1 e)) (⟨badd B [w],lp⟩ :: R) Q := by
 have h : rowsB F (R.length + 1) 1 [x] = some [w] := by simp [rowsB,hx,lowL,hl]
 apply propext
 constructor
 ·rintro ⟨_,h2⟩
  simp only [h] at h2
  exact h2
 ·intro h2
  refine ⟨⟨by simp,by simp,by simp⟩,?_⟩
  simp only [h]
  exact h2
theorem src1 {i e : Nat} {w : V} (hg : bget B i = some [w]) (hw : strip w = w) : srcRows (⟨B,lp⟩ :: R) 1 (.bsl R.length i 0 1 1 e) = some [[w]] := by
 have h1 : getBox (⟨B,lp⟩ :: R) R.length i = some [w] := by rw [getBox_top]; exact hg
 simp only [srcRows,h1]
 simp [cutL,hw,chunk]
theorem Appr0 {e i b : Nat} {x y : Opd} {w : V} (hx : evO F x = .slice .nil []) (hy : evO F y = .bsl R.length i 0 1 1 e) (hg : bget B i = some [w]) (hw : strip w = w) (hl : low (R.length + 1) w = true) (ho : noOwn [w] = true) (hb : b ≤ 1000) :
  Wk E (.s (.seq ⟨d, .appr e 1 b x y none,none⟩ :: bs)) ks F (⟨B,lp⟩ :: R) Q = Wk E (.s bs) ks (putO (unown F x) d (.bsl R.length (blen B) 0 1 1 e)) (⟨badd B [w],lp⟩ :: R) Q := by
 have h1 : lenAt (⟨B,lp⟩ :: R) R.length = blen B := by simp [lenAt,blen]
 have h2 : addBox (⟨B,lp⟩ :: R) R.length [w] = ⟨badd B [w],lp⟩ :: R := by simp [addBox,badd]
 have h3 : lvOf F (⟨B,lp⟩ :: R) none = some R.length := by simp [lvOf]
 show apprK e 1 b (evO F x) (srcRows (⟨B,lp⟩ :: R) 1 (evO F y)) (lvOf F (⟨B,lp⟩ :: R) none) d F (unown F x) (⟨B,lp⟩ :: R) (fun F S => Wk E (.s bs) ks F S Q) = _
 rw [hx,hy,src1 hg hw,h3]
 apply propext
 constructor
 ·rintro ⟨_,_,_,h⟩
  rw [List.flatten_singleton] at h
  rw [h1,h2] at h
  exact h
 ·intro h
  refine ⟨⟨rfl,by decide,by simp; omega,by simp⟩,?_⟩
  simp only [List.flatten_singleton]
  refine ⟨by simp [lowL,hl],ho,?_⟩
  rw [h1,h2]
  exact h
theorem Appr1 {e i j c b : Nat} {x y : Opd} {w : V} {cs : List V} (hx : evO F x = .bsl R.length j 0 c 1 e) (hy : evO F y = .bsl R.length i 0 1 1 e) (hj : bget B j = some cs) (hc : cs.length = c) (hos : noOwn cs = true) (hg : bget B i = some [w]) (hw : strip w = w) (hl : low (R.length + 1) w = true) (ho : noOwn [w] = true) (hb : (c + 1) * b ≤ 140737488355328) (hcc : c + 1 ≤ 140737488355328) :
  Wk E (.s (.seq ⟨d, .appr e 1 b x y none,none⟩ :: bs)) ks F (⟨B,lp⟩ :: R) Q = Wk E (.s bs) ks (putO F d (.bsl R.length (blen B) 0 (c + 1) 1 e)) (⟨badd (bset B j dead) (cs ++ [w]),lp⟩ :: R) Q := by
 have h1 : lenAt (⟨B,lp⟩ :: R) R.length = blen B := by simp [lenAt,blen]
 have h2 : addBox (setBox (⟨B,lp⟩ :: R) R.length j dead) R.length (cs ++ [w]) = ⟨badd (bset B j dead) (cs ++ [w]),lp⟩ :: R := by rw [setBox_top]; simp [addBox,badd]
 have h3 : lvOf F (⟨B,lp⟩ :: R) none = some R.length := by simp [lvOf]
 have h4 : ((getBox (⟨B,lp⟩ :: R) R.length j).bind fun cs => cutL cs 0 (c * 1)) = some cs := by
  rw [getBox_top,hj]; subst hc; simp [cutL]
 show apprK e 1 b (evO F x) (srcRows (⟨B,lp⟩ :: R) 1 (evO F y)) (lvOf F (⟨B,lp⟩ :: R) none) d F (unown F x) (⟨B,lp⟩ :: R) (fun F S => Wk E (.s bs) ks F S Q) = _
 rw [hx,hy,src1 hg hw,h3]
 simp only [apprK,h4,List.flatten_singleton,List.length_singleton]
 rw [h1,h2]
 apply propext
 constructor
 ·rintro ⟨_,_,_,_,h⟩
  exact h
 ·intro h
  exact ⟨⟨by simp,by simp,by simp,by simp,hb,hcc⟩,hos,by simp [lowL,hl],ho,h⟩
end
@[go_sem] theorem strip_rowsV {c : Bool} {l : List (List Int)} : strip (rowsV c l) = rowsV c l := by
 cases c
 ·rfl
 ·exact strip_nk
@[go_sem] theorem cp_rowsV {c : Bool} {l : List (List Int)} : cp (rowsV c l) = some (rowsV c l) := by
 cases c
 ·rfl
 ·exact cp_nk
@[go_sem] theorem tame_rowsV {c : Bool} {l : List (List Int)} : tame (rowsV c l) = true := by cases c <;> rfl
@[go_sem] theorem strip_intsV {c : Bool} {l : List Int} : strip (intsV c l) = intsV c l := by
 cases c
 ·rfl
 ·exact strip_nk
@[go_sem] theorem cp_intsV {c : Bool} {l : List Int} : cp (intsV c l) = some (intsV c l) := by
 cases c
 ·rfl
 ·exact cp_nk
@[go_sem] theorem tame_intsV {c : Bool} {l : List Int} : tame (intsV c l) = true := by cases c <;> rfl
end Wp
end AM
end Go.Proofs.YtimfbnojmdnlnaaGreat
end
