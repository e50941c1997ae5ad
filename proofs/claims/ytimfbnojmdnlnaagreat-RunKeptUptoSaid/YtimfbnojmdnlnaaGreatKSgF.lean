/- RunKept for what is read. -/
import Derived.Test.YtimfbnojmdnlnaaGreatKSgE
import Derived.Test.YtimfbnojmdnlnaaGreatKEaF
set_option linter.unusedVariables false
set_option linter.unusedSimpArgs false
set_option maxRecDepth 100000
namespace Go.Proofs.YtimfbnojmdnlnaaGreat
namespace AM
open Go.RowKit Go.ChangeShapes Go.WideShapes Go.ChangeAt
namespace Wp
theorem kept_law {n m k : Nat} {vs : List V} {s i : V} (h : typed Tryz.prog n 26 vs) (h' : typed Tryz.prog m 27 [s]) (h'' : typed Tryz.prog k 3 [i]) (hw : wtL vs ≤ 400000000) : EvC theEnv 10 [.agg vs, s, i] (.bool true) := by
 obtain ⟨p, rfl, hp⟩ := ty_Prg h
 obtain ⟨b, xs, h1, h2, h3⟩ := ty_Ints h'
 obtain rfl : s = _ := (List.cons.inj h1).1
 obtain ⟨j, h4, _⟩ := ty_int h''
 obtain rfl : i = _ := (List.cons.inj h4).1
 exact (keptlaw_ok hp hw b xs h3 h2 j).s []
theorem kept_calls {H : Type} {enc : TypeId × Value → H} {W : World} {base : Nat} {a b c : Value} {da db dc : DataW H} {pa pb pc : List MemPlace} (hs : W.ShapedOpen Tryz.prog) (ha : Value.okWide Tryz.prog W .any base 26 a) (hb : Value.okWide Tryz.prog W .any base 27 b) (hc : Value.okWide Tryz.prog W .any base 3 c)
  (ta : DataW.Trod enc Tryz.prog W 0 (fun _ => true) true 26 a da pa) (tb : DataW.Trod enc Tryz.prog W 0 (fun _ => true) true 27 b db pb) (tc : DataW.Trod enc Tryz.prog W 0 (fun _ => true) true 3 c dc pc) (hw : Rows.uptoBulk da ≤ 400000000) : Calls Tryz.prog 10 #[a, b, c] W fun e W' => e = .returned (.bool true) ∧ Below W.heap.size W W' := by
 obtain ⟨n, vs, h1, h2, h3⟩ := prog_arg ha ta
 obtain ⟨e, he⟩ := ints_slice
 obtain ⟨m, s, h4, h5⟩ := slice_arg he (by decide) hb tb
 obtain ⟨b', xs, h6, _⟩ := ty_Ints h4
 obtain rfl : s = _ := (List.cons.inj h6).1
 obtain ⟨k, i, h7, h8⟩ := int_arg hc tc
 obtain ⟨j, h9, _⟩ := ty_int h7
 obtain rfl : i = _ := (List.cons.inj h9).1
 obtain ⟨K, hK⟩ := kept_law h1 h4 h7 (by omega)
 exact calls_true (vals := [a, b, c]) (base_shaped hs) (by simp only [RelL]; exact ⟨_, _, rfl, h2, _, _, rfl, h5, _, _, rfl, h8, rfl⟩) (by intro v hv; simp at hv; rcases hv with rfl | rfl | rfl <;> first | rfl | (cases b' <;> rfl)) (hK K (Nat.le_refl _))
end Wp
end AM
end Go.Proofs.YtimfbnojmdnlnaaGreat
