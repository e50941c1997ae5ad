/- LangAssigns for what is read. -/
import Derived.Test.YtimfbnojmdnlnaaGreatKSdF
import Derived.Test.YtimfbnojmdnlnaaGreatKSdA
import Derived.Test.YtimfbnojmdnlnaaGreatKM20
set_option linter.unusedVariables false
set_option linter.unusedSimpArgs false
set_option maxRecDepth 100000
namespace Go.Proofs.YtimfbnojmdnlnaaGreat
namespace AM
open Go.RowKit Go.ChangeShapes Go.WideShapes Go.ChangeAt
theorem slice_arg {H : Type} {enc : TypeId × Value → H} {W : World} {base : Nat} {t e : Nat} {v : Value} {d : DataW H} {ps : List MemPlace} (hu : Tryz.prog.underlying t = some (.slice e)) (ht : t ∈ theTys) (hv : Value.okWide Tryz.prog W .any base t v) (h : DataW.Trod enc Tryz.prog W 0 (fun _ => true) true t v d ps) :
  ∃ n s, typed Tryz.prog n t [s] ∧ Rel (g0 W) 1 s v := by
 unfold Value.okWide at hv
 rw [hu] at hv
 simp only [Cell.okWide, hu, Cell.ok] at hv
 have hcs : v.cells = #[v] := by
  cases v <;> first | rfl | (simp at hv)
 obtain ⟨n, hn⟩ := h
 obtain ⟨vs, h1, h2, h3, h4⟩ := trod_open tys_closed n t _ d ps ht hn
 rw [hcs] at h1
 cases vs with
 | nil => simp [RelL] at h1
 | cons s ss =>
  simp only [RelL] at h1
  obtain ⟨u, us, h5, h6, h7⟩ := h1
  simp only [List.cons.injEq] at h5
  obtain ⟨rfl, rfl⟩ := h5
  cases ss with
  | nil => exact ⟨n, s, h3, rel_mono (Le.refl 0 _) (Nat.zero_le _) _ _ h6⟩
  | cons s2 ss =>
   simp only [RelL] at h7
   obtain ⟨_, _, h8, _⟩ := h7
   cases h8
namespace Wp
theorem ints_slice : ∃ e, Tryz.prog.underlying 27 = some (.slice e) := by
 have h : (Tryz.prog.underlying 27).map (fun d => match d with | .slice _ => true | _ => false) = some true := by kernel_rfl
 cases hu : Tryz.prog.underlying 27 with
 | none => rw [hu] at h; cases h
 | some d => rw [hu] at h; cases d <;> simp at h; exact ⟨_, rfl⟩
theorem ty_Ints {n : Nat} {cs : List V} (h : typed Tryz.prog n 27 cs) : ∃ b xs, cs = [.slice (nk b) (xs.map encI)] ∧ xs.length ≤ LIM ∧ (b = true → xs = []) := by
 obtain ⟨b, ys, h1, h2, _, h3⟩ := ty_sl (P := Tryz.prog) (t := 27) (e := 3) (c := 1) (enc := encI) (Ok := fun _ => True) (by kernel_rfl) h (fun m _ x hx => by
  obtain ⟨i, hi, _⟩ := ty_int hx
  exact ⟨i, hi, trivial⟩)
 exact ⟨b, ys, h1, h2, h3⟩
theorem assigns_law {n m : Nat} {vs : List V} {s : V} (h : typed Tryz.prog n 26 vs) (h' : typed Tryz.prog m 27 [s]) (hw : wtL vs ≤ 400000000) : EvC theEnv 3 [.agg vs, s] (.bool true) := by
 obtain ⟨p, rfl, hp⟩ := ty_Prg h
 obtain ⟨b, xs, h1, h2, h3⟩ := ty_Ints h'
 obtain rfl : s = _ := (List.cons.inj h1).1
 exact (alaw_ok setCopy_ok hp hw b xs h3 h2).s []
theorem assigns_calls {H : Type} {enc : TypeId × Value → H} {W : World} {base : Nat} {a b : Value} {da db : DataW H} {pa pb : List MemPlace} (hs : W.ShapedOpen Tryz.prog) (ha : Value.okWide Tryz.prog W .any base 26 a) (hb : Value.okWide Tryz.prog W .any base 27 b)
  (ta : DataW.Trod enc Tryz.prog W 0 (fun _ => true) true 26 a da pa) (tb : DataW.Trod enc Tryz.prog W 0 (fun _ => true) true 27 b db pb) (hw : Rows.uptoBulk da ≤ 400000000) : Calls Tryz.prog 3 #[a, b] W fun e W' => e = .returned (.bool true) ∧ Below W.heap.size W W' := by
 obtain ⟨n, vs, h1, h2, h3⟩ := prog_arg ha ta
 obtain ⟨e, he⟩ := ints_slice
 obtain ⟨m, s, h4, h5⟩ := slice_arg he (by decide) hb tb
 obtain ⟨b', xs, h6, _⟩ := ty_Ints h4
 obtain rfl : s = _ := (List.cons.inj h6).1
 obtain ⟨K, hK⟩ := assigns_law h1 h4 (by omega)
 exact calls_true (vals := [a, b]) (base_shaped hs) (by simp only [RelL]; exact ⟨_, _, rfl, h2, _, _, rfl, h5, rfl⟩) (by intro v hv; simp at hv; rcases hv with rfl | rfl <;> first | rfl | (cases b' <;> rfl)) (hK K (Nat.le_refl _))
end Wp
end AM
end Go.Proofs.YtimfbnojmdnlnaaGreat
