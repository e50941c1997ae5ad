/- Arguments that are slices and numbers. -/
import Derived.Test.YtimfbnojmdnlnaaGreatKEaD
import Derived.Test.YtimfbnojmdnlnaaGreatKM29
set_option linter.unusedVariables false
set_option linter.unusedSimpArgs false
set_option maxRecDepth 100000
namespace Go.Proofs.YtimfbnojmdnlnaaGreat
namespace AM
open Go.RowKit Go.ChangeShapes Go.WideShapes Go.ChangeAt
theorem slice_arg {H : Type} {enc : TypeId × Value → H} {W : World} {base : Nat} {t e : Nat} {v : Value} {d : DataW H} {ps : List MemPlace} (hu : Tryz.prog.underlying t = some (.slice e)) (ht : t ∈ theTys) (hv : Value.okWide Tryz.prog W .any base t v) (h : DataW.Trod enc Tryz.prog W 0 (fun _ => true) true t v d ps) :
  ∃ n s, typed Tryz.prog n t [s] ∧ Rel (g0 W) 1 s v := by
 unfold Value.okWide at hv
 rw [hu] at hv
 simp only [Cell.okWide, hu, Cell.ok] at hv
 have hcs : v.cells = #[v] := by
  cases v <;> first | rfl | (simp at hv)
 obtain ⟨n, hn⟩ := h
 obtain ⟨vs, h1, h2, h3, h4⟩ := trod_open tys_closed n t _ d ps ht hn
 rw [hcs] at h1
 cases vs with
 | nil => simp [RelL] at h1
 | cons s ss =>
  simp only [RelL] at h1
  obtain ⟨u, us, h5, h6, h7⟩ := h1
  simp only [List.cons.injEq] at h5
  obtain ⟨rfl, rfl⟩ := h5
  cases ss with
  | nil => exact ⟨n, s, h3, rel_mono (Le.refl 0 _) (Nat.zero_le _) _ _ h6⟩
  | cons s2 ss =>
   simp only [RelL] at h7
   obtain ⟨_, _, h8, _⟩ := h7
   cases h8
theorem u_int : Tryz.prog.underlying 3 = some (.int .i64) := by kernel_rfl
theorem int_arg {H : Type} {enc : TypeId × Value → H} {W : World} {base : Nat} {v : Value} {d : DataW H} {ps : List MemPlace} (hv : Value.okWide Tryz.prog W .any base 3 v) (h : DataW.Trod enc Tryz.prog W 0 (fun _ => true) true 3 v d ps) :
  ∃ n s, typed Tryz.prog n 3 [s] ∧ Rel (g0 W) 1 s v := by
 unfold Value.okWide at hv
 rw [u_int] at hv
 simp only [Cell.okWide, u_int, Cell.ok] at hv
 have hcs : v.cells = #[v] := by
  cases v <;> first | rfl | (simp at hv)
 obtain ⟨n, hn⟩ := h
 obtain ⟨vs, h1, h2, h3, h4⟩ := trod_open tys_closed n 3 _ d ps (by decide) hn
 rw [hcs] at h1
 cases vs with
 | nil => simp [RelL] at h1
 | cons s ss =>
  simp only [RelL] at h1
  obtain ⟨u, us, h5, h6, h7⟩ := h1
  simp only [List.cons.injEq] at h5
  obtain ⟨rfl, rfl⟩ := h5
  cases ss with
  | nil => exact ⟨n, s, h3, rel_mono (Le.refl 0 _) (Nat.zero_le _) _ _ h6⟩
  | cons s2 ss =>
   simp only [RelL] at h7
   obtain ⟨_, _, h8, _⟩ := h7
   cases h8
namespace Wp
theorem ints_slice : ∃ e, Tryz.prog.underlying 27 = some (.slice e) := by
 have h : (Tryz.prog.underlying 27).map (fun d => match d with | .slice _ => true | _ => false) = some true := by kernel_rfl
 cases hu : Tryz.prog.underlying 27 with
 | none => rw [hu] at h; cases h
 | some d => rw [hu] at h; cases d <;> simp at h; exact ⟨_, rfl⟩
theorem ty_Ints {n : Nat} {cs : List V} (h : typed Tryz.prog n 27 cs) : ∃ b xs, cs = [.slice (nk b) (xs.map encI)] ∧ xs.length ≤ LIM ∧ (b = true → xs = []) := by
 obtain ⟨b, ys, h1, h2, _, h3⟩ := ty_sl (P := Tryz.prog) (t := 27) (e := 3) (c := 1) (enc := encI) (Ok := fun _ => True) (by kernel_rfl) h (fun m _ x hx => by
  obtain ⟨i, hi, _⟩ := ty_int hx
  exact ⟨i, hi, trivial⟩)
 exact ⟨b, ys, h1, h2, h3⟩
end Wp
end AM
end Go.Proofs.YtimfbnojmdnlnaaGreat
