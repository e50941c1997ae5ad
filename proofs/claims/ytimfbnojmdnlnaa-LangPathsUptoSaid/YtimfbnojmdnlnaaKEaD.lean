/- The row of LangSame, but for the plain law. -/
import Derived.Test.YtimfbnojmdnlnaaKEaC
import Derived.Test.YtimfbnojmdnlnaaKEvA
import Derived.Test.YtimfbnojmdnlnaaRows
set_option linter.unusedVariables false
set_option linter.unusedSimpArgs false
set_option linter.constructorNameAsVariable false
set_option maxRecDepth 100000
namespace Go.Proofs.Ytimfbnojmdnlnaa
namespace AM
open Go.RowKit Go.ChangeShapes Go.WideShapes Go.ChangeAt

def theTys : List Nat := [26, 22, 9, 23, 83, 42, 46, 35, 3, 24, 51, 38, 36, 130, 156, 41, 39, 131, 181, 44, 49, 47]
theorem tys_closed : closedT Try.prog theTys = true := by kernel_rfl
theorem prog_ty : ∃ fs, Try.prog.underlying 26 = some (.struct fs) := by
  have h : (Try.prog.underlying 26).map (fun d => match d with | .struct _ => true | _ => false) = some true := by kernel_rfl
  cases hu : Try.prog.underlying 26 with
  | none => rw [hu] at h; cases h
  | some d => rw [hu] at h; cases d <;> simp at h; exact ⟨_, rfl⟩

/-- An argument that is a program. -/
theorem prog_arg {H : Type} {enc : TypeId × Value → H} {W : World} {base : Nat} {v : Value} {d : DataW H} {ps : List MemPlace} (hv : Value.okWide Try.prog W .any base 26 v) (h : DataW.Trod enc Try.prog W 0 (fun _ => true) true 26 v d ps) :
    ∃ n vs, typed Try.prog n 26 vs ∧ Rel (g0 W) 1 (.agg vs) v ∧ wtL vs ≤ Rows.uptoBulk d := by
  obtain ⟨fs, hu⟩ := prog_ty
  unfold Value.okWide at hv
  rw [hu] at hv
  obtain ⟨cs, rfl, _, _⟩ := hv
  obtain ⟨n, hn⟩ := h
  obtain ⟨vs, h1, h2, h3, h4⟩ := trod_open tys_closed n 26 _ d ps (by decide) hn
  refine ⟨n, vs, h3, ?_, h4⟩
  simp only [Rel]
  exact ⟨cs.toList, by simp, h2, relL_mono (Le.refl 0 _) (Nat.zero_le _) _ _ (by simpa [Value.cells] using h1)⟩

theorem own_ok : ownKnob Try.prog.godebug = none := by kernel_rfl
theorem laid_ok : laidOutB Try.prog = true := by kernel_rfl

/-- What the plain law must show. -/
def SameLaw : Prop := ∀ n m vs ws, typed Try.prog n 26 vs → typed Try.prog m 26 ws → EvC theEnv 5 [.agg vs, .agg ws] (.bool true)

theorem same_calls (hlaw : SameLaw) {H : Type} {enc : TypeId × Value → H} {W : World} {base : Nat} {a b : Value} {da db : DataW H} {pa pb : List MemPlace} (hs : W.ShapedOpen Try.prog) (ha : Value.okWide Try.prog W .any base 26 a) (hb : Value.okWide Try.prog W .any base 26 b)
    (ta : DataW.Trod enc Try.prog W 0 (fun _ => true) true 26 a da pa) (tb : DataW.Trod enc Try.prog W 0 (fun _ => true) true 26 b db pb) : Calls Try.prog 5 #[a, b] W fun e W' => e = .returned (.bool true) ∧ Below W.heap.size W W' := by
  obtain ⟨n, vs, h1, h2, _⟩ := prog_arg ha ta
  obtain ⟨m, ws, h3, h4, _⟩ := prog_arg hb tb
  obtain ⟨K, hK⟩ := hlaw n m vs ws h1 h3
  exact calls_true (vals := [a, b]) (base_shaped hs) (by simp only [RelL]; exact ⟨_, _, rfl, h2, _, _, rfl, h4, rfl⟩) (by intro v hv; simp at hv; rcases hv with rfl | rfl <;> rfl) (hK K (Nat.le_refl _))

end AM
end Go.Proofs.Ytimfbnojmdnlnaa
