/- Arguments that are memories and bytes. -/
import Derived.Test.YtimfbnojmdnlnaaGreatKEaF
import Derived.Test.YtimfbnojmdnlnaaGreatKSgI
set_option linter.unusedVariables false
set_option linter.unusedSimpArgs false
set_option maxRecDepth 100000
namespace Go.Proofs.YtimfbnojmdnlnaaGreat
namespace AM
open Go.RowKit Go.ChangeShapes Go.WideShapes Go.ChangeAt
def memTys : List Nat := [70, 27, 3, 75, 5]
theorem mem_closed : closedT Tryz.prog memTys = true := by kernel_rfl
theorem slice_arg2 {H : Type} {enc : TypeId × Value → H} {W : World} {base : Nat} {t e : Nat} {v : Value} {d : DataW H} {ps : List MemPlace} (hu : Tryz.prog.underlying t = some (.slice e)) (ht : t ∈ memTys) (hv : Value.okWide Tryz.prog W .any base t v) (h : DataW.Trod enc Tryz.prog W 0 (fun _ => true) true t v d ps) :
  ∃ n s, typed Tryz.prog n t [s] ∧ Rel (g0 W) 1 s v ∧ wtL [s] ≤ Rows.uptoBulk d := by
 unfold Value.okWide at hv
 rw [hu] at hv
 simp only [Cell.okWide, hu, Cell.ok] at hv
 have hcs : v.cells = #[v] := by
  cases v <;> first | rfl | (simp at hv)
 obtain ⟨n, hn⟩ := h
 obtain ⟨vs, h1, h2, h3, h4⟩ := trod_open mem_closed n t _ d ps ht hn
 rw [hcs] at h1
 cases vs with
 | nil => simp [RelL] at h1
 | cons s ss =>
  simp only [RelL] at h1
  obtain ⟨u, us, h5, h6, h7⟩ := h1
  simp only [List.cons.injEq] at h5
  obtain ⟨rfl, rfl⟩ := h5
  cases ss with
  | nil => exact ⟨n, s, h3, rel_mono (Le.refl 0 _) (Nat.zero_le _) _ _ h6, h4⟩
  | cons s2 ss =>
   simp only [RelL] at h7
   obtain ⟨_, _, h8, _⟩ := h7
   cases h8
theorem sl_of {t : Nat} (h : (Tryz.prog.underlying t).map (fun d => match d with | .slice _ => true | _ => false) = some true) : ∃ e, Tryz.prog.underlying t = some (.slice e) := by
 cases hu : Tryz.prog.underlying t with
 | none => rw [hu] at h; cases h
 | some d => rw [hu] at h; cases d <;> simp at h; exact ⟨_, rfl⟩
namespace Wp
theorem mem_slice : ∃ e, Tryz.prog.underlying 70 = some (.slice e) := sl_of (by kernel_rfl)
theorem byte_slice : ∃ e, Tryz.prog.underlying 75 = some (.slice e) := sl_of (by kernel_rfl)
theorem ty_Mems {n : Nat} {cs : List V} (h : typed Tryz.prog n 70 cs) : ∃ (b : Bool) (mem : List Mem), cs = [.slice (nk b) (mem.map encMem)] ∧ (∀ m ∈ mem, m.n = true → m.row = []) := by
 obtain ⟨b, ys, h1, h2, h3, h4⟩ := ty_sl (P := Tryz.prog) (t := 70) (e := 27) (c := 1) (enc := encMem) (Ok := fun m => m.n = true → m.row = []) (by kernel_rfl) h (fun m _ x hx => by
  obtain ⟨b, xs, hi, _, hz⟩ := ty_Ints hx
  exact ⟨⟨b, xs⟩, hi, hz⟩)
 exact ⟨b, ys, h1, h3⟩
theorem u5 : Tryz.prog.underlying 5 = some (.int .u8) := by kernel_rfl
theorem ty_U8s {n : Nat} {cs : List V} (h : typed Tryz.prog n 75 cs) : ∃ (b : Bool) (ms : List Int), cs = [.slice (nk b) (ms.map encU8)] ∧ (∀ m ∈ ms, 0 ≤ m ∧ m ≤ 255) := by
 obtain ⟨b, ys, h1, h2, h3, h4⟩ := ty_sl (P := Tryz.prog) (t := 75) (e := 5) (c := 1) (enc := encU8) (Ok := fun m => 0 ≤ m ∧ m ≤ 255) (by kernel_rfl) h (fun m _ x hx => by
  cases m with
  | zero => exact hx.elim
  | succ m =>
   unfold typed at hx
   rw [u5] at hx
   obtain ⟨k, rfl, h1, h2⟩ := hx
   exact ⟨k, rfl, h1, h2⟩)
 exact ⟨b, ys, h1, h3⟩
theorem wt_mems : ∀ (mem : List Mem), mem.length + memLen mem ≤ wtR (mem.map encMem)
 | [] => by simp [memLen]
 | m :: l => by
  have := wt_mems l
  have := rwtR_len (enc := encI) (fun x => by simp [encI, wtL, wt]) m.row
  simp only [List.length_cons, memLen, List.map_cons, wtR, encMem, wtL, wt]; omega
theorem marks_law {n m k j : Nat} {vs : List V} {s t u : V} (h : typed Tryz.prog n 26 vs) (h' : typed Tryz.prog m 27 [s]) (h'' : typed Tryz.prog k 70 [t]) (h3 : typed Tryz.prog j 75 [u]) (hw : wtL vs ≤ 400000000) (hw1 : wtL [s] ≤ 400000000) (hw2 : wtL [t] ≤ 400000000) (hw3 : wtL [u] ≤ 400000000)
  (hlaw : ∀ (p : Prg) (b bm bk : Bool) (ps : List Int) (mem : List Mem) (ms : List Int), OkPrg p → wtL (encPrg p) ≤ 400000000 → (b = true → ps = []) → ps.length ≤ LIM → ps.length + mem.length + memLen mem ≤ 1000000000000 → (∀ m ∈ mem, m.n = true → m.row = []) → (∀ m ∈ ms, 0 ≤ m ∧ m ≤ 255) → ms.length ≤ 1000000000 →
   EvC theEnv 6 [.agg (encPrg p), .slice (nk b) (ps.map encI), .slice (nk bm) (mem.map encMem), .slice (nk bk) (ms.map encU8)] (.bool true)) : EvC theEnv 6 [.agg vs, s, t, u] (.bool true) := by
 obtain ⟨p, rfl, hp⟩ := ty_Prg h
 obtain ⟨b, xs, h4, h5, h6⟩ := ty_Ints h'
 obtain rfl : s = _ := (List.cons.inj h4).1
 obtain ⟨bm, mem, h7, h8⟩ := ty_Mems h''
 obtain rfl : t = _ := (List.cons.inj h7).1
 obtain ⟨bk, ms, h9, h10⟩ := ty_U8s h3
 obtain rfl : u = _ := (List.cons.inj h9).1
 have a1 := wt_mems mem
 have a2 := rwtR_len (enc := encI) (fun x => by simp [encI, wtL, wt]) xs
 have a3 := rwtR_len (enc := encU8) (fun x => by simp [encU8, wtL, wt]) ms
 simp only [wtL, wt] at hw1 hw2 hw3
 exact hlaw p b bm bk xs mem ms hp hw h6 h5 (by omega) h8 h10 (by omega)
end Wp
end AM
end Go.Proofs.YtimfbnojmdnlnaaGreat
