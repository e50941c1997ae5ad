/- RunMarks for what is read. -/
import Derived.Test.YtimfbnojmdnlnaaGreatKSgJ
import Derived.Test.YtimfbnojmdnlnaaGreatKEaG
set_option linter.unusedVariables false
set_option linter.unusedSimpArgs false
set_option maxRecDepth 100000
namespace Go.Proofs.YtimfbnojmdnlnaaGreat
namespace AM
open Go.RowKit Go.ChangeShapes Go.WideShapes Go.ChangeAt
namespace Wp
theorem marks_calls {H : Type} {enc : TypeId × Value → H} {W : World} {base : Nat} {a b c e : Value} {da db dc de : DataW H} {pa pb pc pe : List MemPlace} (hs : W.ShapedOpen Tryz.prog) (ha : Value.okWide Tryz.prog W .any base 26 a) (hb : Value.okWide Tryz.prog W .any base 27 b) (hc : Value.okWide Tryz.prog W .any base 70 c) (he : Value.okWide Tryz.prog W .any base 75 e)
  (ta : DataW.Trod enc Tryz.prog W 0 (fun _ => true) true 26 a da pa) (tb : DataW.Trod enc Tryz.prog W 0 (fun _ => true) true 27 b db pb) (tc : DataW.Trod enc Tryz.prog W 0 (fun _ => true) true 70 c dc pc) (te : DataW.Trod enc Tryz.prog W 0 (fun _ => true) true 75 e de pe)
  (hw : Rows.uptoBulk da ≤ 400000000) (hw1 : Rows.uptoBulk db ≤ 400000000) (hw2 : Rows.uptoBulk dc ≤ 400000000) (hw3 : Rows.uptoBulk de ≤ 400000000) : Calls Tryz.prog 6 #[a, b, c, e] W fun e W' => e = .returned (.bool true) ∧ Below W.heap.size W W' := by
 obtain ⟨n, vs, h1, h2, h3⟩ := prog_arg ha ta
 obtain ⟨e1, he1⟩ := ints_slice
 obtain ⟨m, s, h4, h5, w1⟩ := slice_arg2 he1 (by decide) hb tb
 obtain ⟨e2, he2⟩ := mem_slice
 obtain ⟨k, t, h7, h8, w2⟩ := slice_arg2 he2 (by decide) hc tc
 obtain ⟨e3, he3⟩ := byte_slice
 obtain ⟨j, u, h10, h11, w3⟩ := slice_arg2 he3 (by decide) he te
 obtain ⟨b1, xs, h6, _⟩ := ty_Ints h4
 obtain rfl : s = _ := (List.cons.inj h6).1
 obtain ⟨b2, mem, h9, _⟩ := ty_Mems h7
 obtain rfl : t = _ := (List.cons.inj h9).1
 obtain ⟨b3, ms, h12, _⟩ := ty_U8s h10
 obtain rfl : u = _ := (List.cons.inj h12).1
 obtain ⟨K, hK⟩ := marks_law h1 h4 h7 h10 (by omega) (by omega) (by omega) (by omega) fun p b bm bk ps mem ms hp h1 h2 h3 h4 h5 h6 h7 => markslaw_ok hp h1 b bm bk ps mem ms h2 h3 h4 h5 h6 h7
 exact calls_true (vals := [a, b, c, e]) (base_shaped hs) (by simp only [RelL]; exact ⟨_, _, rfl, h2, _, _, rfl, h5, _, _, rfl, h8, _, _, rfl, h11, rfl⟩) (by intro v hv; simp at hv; rcases hv with rfl | rfl | rfl | rfl <;> first | rfl | (cases b1 <;> rfl) | (cases b2 <;> rfl) | (cases b3 <;> rfl)) (hK K (Nat.le_refl _))
end Wp
end AM
end Go.Proofs.YtimfbnojmdnlnaaGreat
