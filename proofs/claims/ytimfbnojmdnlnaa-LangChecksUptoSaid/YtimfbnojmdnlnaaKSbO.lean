/- Small trees; the law LangChecks for what is read. -/
import Derived.Test.YtimfbnojmdnlnaaKSbN
import Derived.Test.YtimfbnojmdnlnaaKSbM
set_option linter.unusedVariables false
set_option linter.unusedSimpArgs false
set_option maxRecDepth 100000
namespace Go.Proofs.Ytimfbnojmdnlnaa
namespace AM
namespace Wp
open Go.RowKit Go.ChangeShapes Go.WideShapes Go.ChangeAt
theorem wtR_mem {x : List V} : ∀ {xs : List (List V)}, x ∈ xs → wtL x ≤ wtR xs
  | y :: ys, h => by
    simp only [wtR]
    rcases List.mem_cons.1 h with rfl | h
    · omega
    · have := wtR_mem h; omega
mutual
theorem wt_Exp : ∀ x, cntE x ≤ wtL (encExp x)
  | ⟨op, k, l, r, n, args⟩ => by
    have := wt_Exps args
    simp only [cntE, encExp, wtL_append, wtL, wt]
    omega
theorem wt_Exps : ∀ xs, cntEs xs ≤ wtR (encExps xs)
  | [] => by simp [cntEs]
  | x :: xs => by
    have := wt_Exp x
    have := wt_Exps xs
    simp only [cntEs, encExps, wtR]
    omega
end
theorem sm_stm : ∀ x, OkStm x → wtL (encStm x) ≤ 1000000000 → SmS x := by
  intro x h
  induction h with
  | mk x kind name low high step mark test target value bn body en els ihb ihe =>
    intro hw
    have h0 := wt_Exp x.value
    have hx : wtL (encStm x) = wtL (encExp x.value) + wtR (x.body.map encStm) + wtR (x.els.map encStm) + (wtL (encStm x) - (wtL (encExp x.value) + wtR (x.body.map encStm) + wtR (x.els.map encStm))) := by
      have : wtL (encExp x.value) + wtR (x.body.map encStm) + wtR (x.els.map encStm) ≤ wtL (encStm x) := by
        cases x
        simp only [encStm, wtL_append, wtL, wt, encStms_map]
        omega
      omega
    refine .mk _ (by omega) (fun y hy => ihb y hy ?_) fun y hy => ihe y hy ?_
    · have := wtR_mem (List.mem_map_of_mem (f := encStm) hy); omega
    · have := wtR_mem (List.mem_map_of_mem (f := encStm) hy); omega
theorem sm_prg {p : Prg} (hp : OkPrg p) (hw : wtL (encPrg p) ≤ 1000000000) : ∀ s ∈ p.body, SmS s := by
  intro s hs
  refine sm_stm s (hp.bs s hs) ?_
  have := wtR_mem (List.mem_map_of_mem (f := encStm) hs)
  simp only [encPrg, wtL, wt, encStms_map] at hw
  omega
theorem checks_law {n : Nat} {vs : List V} (h : typed Try.prog n 26 vs) (hw : wtL vs ≤ 1000000000) : EvC theEnv 3 [.agg vs] (.bool true) := by
  obtain ⟨p, rfl, hp⟩ := ty_Prg h
  exact (checks_ok hp (sm_prg hp hw)).s []
theorem checks_calls {H : Type} {enc : TypeId × Value → H} {W : World} {base : Nat} {a : Value} {da : DataW H} {pa : List MemPlace} (hs : W.ShapedOpen Try.prog) (ha : Value.okWide Try.prog W .any base 26 a)
    (ta : DataW.Trod enc Try.prog W 0 (fun _ => true) true 26 a da pa) (hw : Rows.uptoBulk da ≤ 1000000000) : Calls Try.prog 3 #[a] W fun e W' => e = .returned (.bool true) ∧ Below W.heap.size W W' := by
  obtain ⟨n, vs, h1, h2, h3⟩ := prog_arg ha ta
  obtain ⟨K, hK⟩ := checks_law h1 (by omega)
  exact calls_true (vals := [a]) (base_shaped hs) (by simp only [RelL]; exact ⟨_, _, rfl, h2, rfl⟩) (by intro v hv; simp at hv; subst hv; rfl) (hK K (Nat.le_refl _))
end Wp
end AM
end Go.Proofs.Ytimfbnojmdnlnaa
