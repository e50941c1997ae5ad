/- RunInsts hands back true for every program, parameters and seed that it reads, of bulk at most 1048576 together. -/
import Derived.Test.YtimfbnojmdnlnaaGreatKEaD
import Derived.Test.YtimfbnojmdnlnaaGreatKM25
import Derived.Test.YtimfbnojmdnlnaaGreatKSiL
import Derived.OpenShut
import Derived.JoinedCond
set_option linter.all false
set_option maxRecDepth 100000
section
namespace Go.Proofs.YtimfbnojmdnlnaaGreat
namespace AM
open Go.RowKit Go.ChangeShapes Go.WideShapes Go.ChangeAt
theorem slice_arg {H : Type} {enc : TypeId × Value → H} {W : World} {base : Nat} {t e : Nat} {v : Value} {d : DataW H} {ps : List MemPlace} (hu : Tryz.prog.underlying t = some (.slice e)) (ht : t ∈ theTys) (hv : Value.okWide Tryz.prog W .any base t v) (h : DataW.Trod enc Tryz.prog W 0 (fun _ => true) true t v d ps) :
  ∃ n s,typed Tryz.prog n t [s] ∧ Rel (g0 W) 1 s v := by
 unfold Value.okWide at hv
 rw [hu] at hv
 simp only [Cell.okWide,hu,Cell.ok] at hv
 have hcs : v.cells = #[v] := by
  cases v <;> first | rfl | (simp at hv)
 obtain ⟨n,hn⟩ := h
 obtain ⟨vs,h1,h2,h3,h4⟩ := trod_open tys_closed n t _ d ps ht hn
 rw [hcs] at h1
 cases vs with
 | nil => simp [RelL] at h1
 | cons s ss =>
  simp only [RelL] at h1
  obtain ⟨u,us,h5,h6,h7⟩ := h1
  simp only [List.cons.injEq] at h5
  obtain ⟨rfl,rfl⟩ := h5
  cases ss with
  | nil => exact ⟨n,s,h3,rel_mono (Le.refl 0 _) (Nat.zero_le _) _ _ h6⟩
  | cons s2 ss =>
   simp only [RelL] at h7
   obtain ⟨_,_,h8,_⟩ := h7
   cases h8
namespace Wp
theorem ints_slice : ∃ e,Tryz.prog.underlying 27 = some (.slice e) := by
 have h : (Tryz.prog.underlying 27).map (fun d => match d with | .slice _ => true | _ => false) = some true := by kernel_rfl
 cases hu : Tryz.prog.underlying 27 with
 | none => rw [hu] at h; cases h
 | some d => rw [hu] at h; cases d <;> simp at h; exact ⟨_,rfl⟩
theorem ty_Ints {n : Nat} {cs : List V} (h : typed Tryz.prog n 27 cs) : ∃ b xs,cs = [.slice (nk b) (xs.map encI)] ∧ xs.length ≤ LIM ∧ (b = true → xs = []) := by
 obtain ⟨b,ys,h1,h2,_,h3⟩ := ty_sl (P := Tryz.prog) (t := 27) (e := 3) (c := 1) (enc := encI) (Ok := fun _ => True) (by kernel_rfl) h (fun m _ x hx => by
  obtain ⟨i,hi,_⟩ := ty_int hx
  exact ⟨i,hi,trivial⟩)
 exact ⟨b,ys,h1,h2,h3⟩
end Wp
end AM
end Go.Proofs.YtimfbnojmdnlnaaGreat
end
section
namespace Go.Proofs.YtimfbnojmdnlnaaGreat
namespace AM
open Go.RowKit Go.ChangeShapes Go.WideShapes Go.ChangeAt
namespace Wp
namespace Y
theorem insts_law {n m : Nat} {vs : List V} {s : V} (h : typed Tryz.prog n 26 vs) (h' : typed Tryz.prog m 27 [s]) (hw : wtL vs ≤ 300000000) : EvC theEnv 9 [.agg vs,s] (.bool true) := by
 obtain ⟨p,rfl,hp⟩ := ty_Prg h
 obtain ⟨b,xs,h1,h2,h3⟩ := ty_Ints h'
 obtain rfl : s = _ := (List.cons.inj h1).1
 exact (instslaw_ok hp hw b xs h3 h2).s []
theorem insts_calls {H : Type} {enc : TypeId × Value → H} {W : World} {base : Nat} {a b : Value} {da db : DataW H} {pa pb : List MemPlace} (hs : W.ShapedOpen Tryz.prog) (ha : Value.okWide Tryz.prog W .any base 26 a) (hb : Value.okWide Tryz.prog W .any base 27 b)
  (ta : DataW.Trod enc Tryz.prog W 0 (fun _ => true) true 26 a da pa) (tb : DataW.Trod enc Tryz.prog W 0 (fun _ => true) true 27 b db pb) (hw : Rows.uptoBulk da ≤ 300000000) : Calls Tryz.prog 9 #[a,b] W fun e W' => e = .returned (.bool true) ∧ Below W.heap.size W W' := by
 obtain ⟨n,vs,h1,h2,h3⟩ := prog_arg ha ta
 obtain ⟨e,he⟩ := ints_slice
 obtain ⟨m,s,h4,h5⟩ := slice_arg he (by decide) hb tb
 obtain ⟨b',xs,h6,_⟩ := ty_Ints h4
 obtain rfl : s = _ := (List.cons.inj h6).1
 obtain ⟨K,hK⟩ := insts_law h1 h4 (by omega)
 exact calls_true (vals := [a,b]) (base_shaped hs) (by simp only [RelL]; exact ⟨_,_,rfl,h2,_,_,rfl,h5,rfl⟩) (by intro v hv; simp at hv; rcases hv with rfl | rfl <;> first | rfl | (cases b' <;> rfl)) (hK K (Nat.le_refl _))
end Y
end Wp
end AM
end Go.Proofs.YtimfbnojmdnlnaaGreat
end
section
namespace Go.Proofs.YtimfbnojmdnlnaaGreat
namespace LawInsts
open Go.ChangeShapes Go.WideShapes Go.ChangeAt Go.RowKit
theorem returnsInHanded_of_cond_shaped {H : Type} {enc : TypeId × Value → H} {a : Assume} {C : Checked} {os : Os} {f : FuncId} {fn : Func} {s : OpenSpec} {k : (H : Type) → List (DataW H) → Bool} (hk : s.cond = some k) {F : Stop.Interp} {conds : List PathCond} {apart fresh handsOn again : Bool}
  (own : ownKnob C.prog.godebug = none) (started : os.Started) (noInit : C.prog.inits.idxOf? f = none) (hfn : C.prog.funcs[f]? = some fn)
  (witness : ∃ (w : World) (tape : Tape) (i : Input),w.os = os ∧ (w.forCall tape i).Shaped C.prog ∧ i.vars = [] ∧ Input.okWide C.prog (w.forCall tape i) .any w.heap.size f i ∧
   s.pre6 enc C.prog fn conds apart (w.forCall tape i).memory i.args ∧ a.holds C.prog (lone (Frame.enter C.prog f i.args .normal) [] (w.forCall tape i)))
  (contract : ∀ (W : World) (base : Nat) (args : Array Value) (ds gs : List (DataW H)) (before : List MemPlace),W.ShapedOpen C.prog →
   (∀ (j : Nat) t v,fn.params[j]? = some t → args[j]? = some v → Value.okWide C.prog W .any base t v) →
   DataW.Whole enc C.prog fn.params.toList s.vars apart W args.toList ds gs before → k H (ds ++ gs) = true →
   Calls C.prog f args W fun e W' => ∃ v,e = .returned v ∧ (s.at F).post enc C.prog fn apart fresh handsOn again W args v W') :
  ReturnsInHanded a C os f .any (s.pre6 enc C.prog fn conds apart) ((s.at F).post enc C.prog fn apart fresh handsOn again) := by
 refine returnsInHanded_of_calls own started noInit witness ?_
 intro w tape i _ hsh _ hok hpre _
 obtain ⟨_,_,_,fn',hfn',_,_,_,_,hval⟩ := hok
 have e : fn' = fn := Option.some.inj (hfn'.symm.trans hfn)
 subst e
 obtain ⟨ds,gs,before,hw,_,hkk⟩ := (OpenSpec.pre_some hk conds apart _ _).1 hpre.1
 have hw' := DataW.Whole.of_heap (w' := w.forCall tape i) (by rfl) hw
 refine (contract (w.forCall tape i) w.heap.size i.args ds gs before hsh hval hw' hkk).mono fun e W' ⟨v,he,hp⟩ => ?_
 subst he
 exact ChangeSpec.post_blind hp
theorem contract (H : Type) (enc : TypeId × Value → H) (W : World) (base : Nat) (args : Array Value) (ds gs : List (DataW H)) (before : List MemPlace) (hs : W.ShapedOpen Tryz.prog)
  (hval : ∀ (j : Nat) t v,Tryz.f9.params[j]? = some t → args[j]? = some v → Value.okWide Tryz.prog W .any base t v)
  (hW : DataW.Whole enc Tryz.prog Tryz.f9.params.toList Rows.runInstsSpec.vars false W args.toList ds gs before) (hk : Rows.uptoSmall H (ds ++ gs) = true) :
  Calls Tryz.prog 9 args W fun e W' => ∃ v,e = .returned v ∧ Rows.runInstsSpec.post enc Tryz.prog Tryz.f9 false true false false W args v W' := by
 have hW' := hW
 obtain ⟨p,q,hA0,hV,rfl,hfz,hnd⟩ := hW
 have hA : DataW.TrodAll enc Tryz.prog W 0 (fun _ => true) true Tryz.f9.params.toList args.toList ds p := hA0
 rw [Tryz.params9] at hA hval
 obtain ⟨v0,vs0,d0,ds0,p0,q0,hargs,rfl,rfl,h0,r0⟩ := trodAll_cons hA
 obtain ⟨v1,vs1,d1,ds1,p1,q1,rfl,rfl,rfl,h1,r1⟩ := trodAll_cons r0
 obtain ⟨rfl,rfl,rfl⟩ := trodAll_nil r1
 obtain rfl : args = #[v0,v1] := by cases args; simp_all
 obtain ⟨rfl,rfl⟩ := trodVars_none hV
 have hb := of_decide_eq_true hk
 have hbulk : Rows.uptoBulk d0 ≤ 300000000 := by
  simp only [List.append_nil,Rows.uptoBulkAll] at hb
  omega
 refine (AM.Wp.Y.insts_calls hs (hval 0 26 v0 rfl rfl) (hval 1 27 v1 rfl rfl) h0 h1 hbulk).mono fun e W' ⟨he,hg⟩ => ?_
 subst he
 exact ⟨_,rfl,AM.post_true AM.laid_ok hW' hg rfl (tb := 4) (by kernel_rfl) (by kernel_rfl) (fun t ht => by
  have h26 : t = 26 ∨ t = 27 := by simpa [Tryz.params9] using ht
  rcases h26 with rfl | rfl <;> exact ⟨by kernel_rfl,of_decide_eq_true (by kernel_rfl)⟩) ⟨rfl,rfl,rfl⟩⟩
theorem lifted (os : Os) (started : os.Started) (H : Type) (enc : TypeId × Value → H) (F : Stop.Interp) :
  ReturnsInHanded Rows.runInstsUptoRow.assume Tryz.checked os 9 .any ((Rows.OpenSpec.upto Rows.runInstsSpec).pre6 enc Tryz.prog Tryz.f9 Rows.runInstsUptoRow.domain false) (((Rows.OpenSpec.upto Rows.runInstsSpec).at F).post enc Tryz.prog Tryz.f9 false true false false) := by
 refine returnsInHanded_of_cond_shaped (C := Tryz.checked) (s := Rows.OpenSpec.upto Rows.runInstsSpec) (k := Rows.uptoSmall) rfl AM.own_ok started (by kernel_rfl) Tryz.func9
  (OpenSpec.witness (enc := enc) (C := Tryz.checked) (s := Rows.OpenSpec.upto Rows.runInstsSpec) (k := Rows.uptoSmall) rfl false ⟨#[], #[.agg #[.slice none 0 0, .slice none 0 0, .slice none 0 0], .slice none 0 0],[]⟩ 8 (by kernel_rfl) (by kernel_rfl) (by kernel_rfl)
   (x := ([.agg [.nil, .nil, .nil], .nil],[],[])) (by kernel_rfl) rfl (by kernel_rfl)) ?_
 intro W base args ds gs before hs hval hW hk
 exact contract H enc W base args ds gs before hs hval hW hk
theorem over : Rows.runInstsUptoRow.holds Tryz.pinned (Rows.OpenSpec.upto Rows.runInstsSpec) :=
 OpenClaim.holds_of_cond 9 Tryz.f9 rfl rfl rfl rfl rfl rfl rfl ⟨rfl,rfl,rfl,rfl,rfl⟩ rfl rfl rfl rfl rfl (by kernel_rfl) Tryz.func9 (by kernel_rfl)
  (of_decide_eq_true (by kernel_rfl)) (by unfold Func.isWrapper; first | (rw [if_pos (by decide +kernel)]; kernel_rfl) | (rw [if_neg (by decide +kernel)]; exact ⟨rfl,rfl⟩))
  (fun os started H enc _ F => lifted os started H enc F)
theorem proved : Rows.RunInstsUptoSaid :=
 over
#print axioms proved
end LawInsts
end Go.Proofs.YtimfbnojmdnlnaaGreat
end
