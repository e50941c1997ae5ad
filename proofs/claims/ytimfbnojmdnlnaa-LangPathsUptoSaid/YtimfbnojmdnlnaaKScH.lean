/- LangPaths for what is read (given set.Copy). -/
import Derived.Test.YtimfbnojmdnlnaaKScG
import Derived.Test.YtimfbnojmdnlnaaKM20
set_option linter.unusedVariables false
set_option linter.unusedSimpArgs false
set_option maxRecDepth 100000
namespace Go.Proofs.Ytimfbnojmdnlnaa
namespace AM
namespace Wp
open Go.RowKit Go.ChangeShapes Go.WideShapes Go.ChangeAt
theorem paths_law (h78 : SetCopy) {n : Nat} {vs : List V} (h : typed Try.prog n 26 vs) (hw : wtL vs ≤ 400000000) : EvC theEnv 4 [.agg vs] (.bool true) := by
  obtain ⟨p, rfl, hp⟩ := ty_Prg h
  exact (paths_ok h78 hp hw).s []
theorem paths_calls (h78 : SetCopy) {H : Type} {enc : TypeId × Value → H} {W : World} {base : Nat} {a : Value} {da : DataW H} {pa : List MemPlace} (hs : W.ShapedOpen Try.prog) (ha : Value.okWide Try.prog W .any base 26 a)
    (ta : DataW.Trod enc Try.prog W 0 (fun _ => true) true 26 a da pa) (hw : Rows.uptoBulk da ≤ 400000000) : Calls Try.prog 4 #[a] W fun e W' => e = .returned (.bool true) ∧ Below W.heap.size W W' := by
  obtain ⟨n, vs, h1, h2, h3⟩ := prog_arg ha ta
  obtain ⟨K, hK⟩ := paths_law h78 h1 (by omega)
  exact calls_true (vals := [a]) (base_shaped hs) (by simp only [RelL]; exact ⟨_, _, rfl, h2, rfl⟩) (by intro v hv; simp at hv; subst hv; rfl) (hK K (Nat.le_refl _))
end Wp
end AM
end Go.Proofs.Ytimfbnojmdnlnaa
