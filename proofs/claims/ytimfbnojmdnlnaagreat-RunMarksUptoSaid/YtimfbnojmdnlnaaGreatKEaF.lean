/- Arguments that are slices and numbers. -/
import Derived.Test.YtimfbnojmdnlnaaGreatKEaD
import Derived.Test.YtimfbnojmdnlnaaGreatKM30
set_option linter.unusedVariables false
set_option linter.unusedSimpArgs false
set_option maxRecDepth 100000
namespace Go.Proofs.YtimfbnojmdnlnaaGreat
namespace AM
open Go.RowKit Go.ChangeShapes Go.WideShapes Go.ChangeAt
namespace Wp
theorem ints_slice : ∃ e, Tryz.prog.underlying 27 = some (.slice e) := by
 have h : (Tryz.prog.underlying 27).map (fun d => match d with | .slice _ => true | _ => false) = some true := by kernel_rfl
 cases hu : Tryz.prog.underlying 27 with
 | none => rw [hu] at h; cases h
 | some d => rw [hu] at h; cases d <;> simp at h; exact ⟨_, rfl⟩
theorem ty_Ints {n : Nat} {cs : List V} (h : typed Tryz.prog n 27 cs) : ∃ b xs, cs = [.slice (nk b) (xs.map encI)] ∧ xs.length ≤ LIM ∧ (b = true → xs = []) := by
 obtain ⟨b, ys, h1, h2, _, h3⟩ := ty_sl (P := Tryz.prog) (t := 27) (e := 3) (c := 1) (enc := encI) (Ok := fun _ => True) (by kernel_rfl) h (fun m _ x hx => by
  obtain ⟨i, hi, _⟩ := ty_int hx
  exact ⟨i, hi, trivial⟩)
 exact ⟨b, ys, h1, h2, h3⟩
end Wp
end AM
end Go.Proofs.YtimfbnojmdnlnaaGreat
