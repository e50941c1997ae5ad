/- The type of programs, and what is read of it. -/
import Derived.Test.YtimfbnojmdnlnaaGreatKEaC
import Derived.Test.YtimfbnojmdnlnaaGreatKM2
import Derived.Test.YtimfbnojmdnlnaaGreatRows
set_option linter.all false
set_option maxRecDepth 100000
namespace Go.Proofs.YtimfbnojmdnlnaaGreat
namespace AM
open Go.RowKit Go.ChangeShapes Go.WideShapes Go.ChangeAt
def theTys : List Nat := [26,22,9,23,102,44,48,27,3,24,53,40,38,151,169,43,41,152,204,46,51,49]
theorem tys_closed : closedT Tryz.prog theTys = true := by kernel_rfl
theorem prog_ty : ∃ fs,Tryz.prog.underlying 26 = some (.struct fs) := by
 have h : (Tryz.prog.underlying 26).map (fun d => match d with | .struct _ => true | _ => false) = some true := by kernel_rfl
 cases hu : Tryz.prog.underlying 26 with
 | none => rw [hu] at h; cases h
 | some d => rw [hu] at h; cases d <;> simp at h; exact ⟨_,rfl⟩
theorem prog_arg {H : Type} {enc : TypeId × Value → H} {W : World} {base : Nat} {v : Value} {d : DataW H} {ps : List MemPlace} (hv : Value.okWide Tryz.prog W .any base 26 v) (h : DataW.Trod enc Tryz.prog W 0 (fun _ => true) true 26 v d ps) :
  ∃ n vs,typed Tryz.prog n 26 vs ∧ Rel (g0 W) 1 (.agg vs) v ∧ wtL vs ≤ Rows.uptoBulk d := by
 obtain ⟨fs,hu⟩ := prog_ty
 unfold Value.okWide at hv
 rw [hu] at hv
 obtain ⟨cs,rfl,_,_⟩ := hv
 obtain ⟨n,hn⟩ := h
 obtain ⟨vs,h1,h2,h3,h4⟩ := trod_open tys_closed n 26 _ d ps (by decide) hn
 refine ⟨n,vs,h3,?_,h4⟩
 simp only [Rel]
 exact ⟨cs.toList,by simp,h2,relL_mono (Le.refl 0 _) (Nat.zero_le _) _ _ (by simpa [Value.cells] using h1)⟩
theorem own_ok : ownKnob Tryz.prog.godebug = none := by kernel_rfl
theorem laid_ok : laidOutB Tryz.prog = true := by kernel_rfl
end AM
end Go.Proofs.YtimfbnojmdnlnaaGreat
