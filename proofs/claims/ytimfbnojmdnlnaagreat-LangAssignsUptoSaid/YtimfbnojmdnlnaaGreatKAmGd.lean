/- A function with one deferred closure that takes a panic back and writes the result. -/
import Derived.Test.YtimfbnojmdnlnaaGreatKM2
import Derived.RecoverIn
set_option linter.unusedVariables false
set_option linter.unusedSimpArgs false
namespace Go.Proofs.YtimfbnojmdnlnaaGreat
namespace AM
def oneBox (T : Lev) (i : Nat) : Option V := match T.bs[i]? with | some [v] => if low 0 v = true then some (strip v) else none | _ => none
def guardH (meth : Nat → String → Option Nat) (np : Nat) (pre post : ACode) (b m ty : Nat) : CE → List V → St → Option (Out × St) := fun cE args S =>
 if args.length = np then
  match codeN meth cE 60 pre (args0 args) (⟨[], none⟩ :: S) with
  | some (.nrm, F1, S1) =>
   (match codeN meth cE 60 post (put F1 m .undef) S1 with
   | some (.ret, F2, T :: R) =>
    (match F1 b, F2 b with
    | .ptr l i 0, .ptr l' i' 0 => if l = S.length ∧ l' = l ∧ i' = i then (oneBox T i).map fun v => (.ret v, R) else none
    | _, _ => none)
   | some (.pan (.ifc t (.agg [])), F2, T :: R) =>
    (match F1 b, F2 b with
    | .ptr l i 0, .ptr l' i' 0 => if l = S.length ∧ l' = l ∧ i' = i ∧ t = ty then (oneBox T i).map fun v => (.ret (.int .i64 1), R) else none
    | _, _ => none)
   | _ => none)
  | _ => none
 else none
section
variable {P : Program} {T : St} {g : Gh} {w : World} {cE : CE}
theorem inv_other (I : Inv P T g w) {L i : Nat} (hL : T.length ≤ L) {w' : World} (h : Same (· = .box L i) g w g w') : Inv P T g w' := {
 K := I.K
 G b o v hv := by
  obtain ⟨h1, h2⟩ := I.G b o v hv
  refine ⟨?_, h2⟩
  rw [cell?_eq (h.old b (G_lt I hv) (fun e => by rw [e] at h2; simp at h2)).1]
  exact h1
 U b hb := I.U b (Nat.le_trans h.size hb)
 B l j cs hc := (I.B l j cs hc).same I h (Le.refl _ _) (by have := getBox_lt hc; simp; omega) (by simp)
 L l p hp := (I.L l p hp).same h (Le.refl _ _) ⟨rfl, (I.L l p hp).1⟩ (by simp)
 N := I.N }
structure Guarded (w w' : World) (blk t0 : Nat) (ex : List Value) : Prop where
 os : w'.os = w.os
 tape : w'.tape = w.tape
 output : w'.output = w.output
 size : w.heap.size ≤ w'.heap.size
 new : w'.heap[blk]? = some (.cells ⟨.int .i64 1 :: ex⟩ t0 (0, 0))
 old : ∀ k, k < w.heap.size → k ≠ blk → w'.heap[k]? = w.heap[k]?
structure GuardFn (P : Program) (gf ty : Nat) : Prop where
 enters : Enters P gf
 ret : ∀ (w : World) (x : Value), CallsDIn Fence.wide 0 P gf #[x] .returning w fun e u' w' => (∃ v, e = .returned v) ∧ Go.settle u' = .returning ∧ w' = w
 pan : ∀ (w : World) (blk t0 : Nat) (old : Value) (ex : List Value), w.heap[blk]? = some (.cells ⟨old :: ex⟩ t0 (0, 0)) → CallsDIn Fence.wide 0 P gf #[.pointer (some ⟨blk, 0, none⟩)] (.panicking [{ v := .iface ty (.agg #[]), recovered := false }]) w fun e u' w' =>
  (∃ v, e = .returned v) ∧ Go.settle u' = .returning ∧ Guarded w w' blk t0 ex
theorem res_run {fn : Func} {tmps : Array Value} {b rt blk : Nat} {v : Value} (hres : fn.results = #[.cell b rt]) (hrg : aggOf P rt = some false) (hp : tmps.getD b undef = .pointer (some ⟨blk, 0, none⟩)) (hc : w.cell? ⟨blk, 0, none⟩ = some v) : (Go.results fn tmps).run P w = .ok v w := by
 have h1 : (resSem tmps (.cell b rt)).run P w = .ok v w := by
  simp only [resSem, hp, asAddr, Sem.run_bind, Sem.run_pure, Result.andThen_ok]
  simp [loadVar, run_isAgg hrg, hc]
 rw [results_eq, Array.mapM_eq_mapM_toList, hres]
 simp [h1]
theorem box_res {L : Lev} {R : St} (I : Inv P (L :: R) g w) {i : Nat} {v : V} (h : oneBox L i = some v) : ∃ x t0 v0 ex, w.heap[g.bx R.length i]? = some (.cells ⟨x :: ex⟩ t0 (0, 0)) ∧ g.use (g.bx R.length i) = .box R.length i ∧ v = strip v0 ∧ low 0 v0 = true ∧ Rel g 0 v0 x := by
 unfold oneBox at h
 split at h <;> try (cases h; done)
 rename_i v0 hb
 split at h <;> try (cases h; done)
 rename_i hlow
 injection h with h
 obtain ⟨hu, vs, e, ex, hh, hi, hr, _⟩ := I.B R.length i [v0] (by simp only [getBox, if_true, hb]; rfl)
 simp only [RelL] at hr
 obtain ⟨x, us, rfl, hx, rfl⟩ := hr
 exact ⟨x, e, v0, ex, hh, hu, h.symm, hlow, rel_low _ _ hlow hx⟩
theorem guard_ok {meth : Nat → String → Option Nat} (hM : MethOk P meth) (hE : CallOk P cE) (hmix : P.follows .mixedOrders = true) {f gf np b m ty rt id : Nat} {fn : Func} {x y : Code} {ops : Array Oper} {om od : Oper} {rs1 rs2 : List Nat} {pre post : ACode} {ts : Array TypeId}
  (hf : P.funcs[f]? = some fn) (hname : fn.name ≠ "runtime.NumGoroutine") (hbody : fn.body = some (.seq x (.seq (.region id ops false) y)))
  (hx : compC P fn.ntmps rs1 x = some pre) (hy : compC P fn.ntmps rs2 y = some post) (hops : ops = #[om, od]) (hom : om.op = .makeFunc (.func gf) #[] #[.tmp b] ∧ om.dst = some m ∧ om.guard = none)
  (hod : od.op = .defer { callee := .value (.tmp m), args := #[], argTypes := ts } ∧ od.dst = none ∧ od.guard = none) (hm : m < fn.ntmps) (hmb : m ≠ b) (hnp : np ≤ fn.ntmps) (hres : fn.results = #[.cell b rt]) (hrt : szOf P rt = some 1) (hrg : aggOf P rt = some false)
  (hgf : GuardFn P gf ty) {args : List V} {out : Out} {T' : St} (hv : guardH meth np pre post b m ty cE args T = some (out, T')) {vals : List Value} (I : Inv P T g w) (hc : Clean T.length g) (hr : RelL g (T.length + 1) args vals) (hcalm : ∀ v ∈ args, isCalm v = true) :
  Enters P f ∧ CallsIn Fence.wide 0 P f ⟨vals⟩ w (OutPost P T g w T' out) := by
 unfold guardH at hv
 split at hv <;> try (cases hv; done)
 rename_i hargs
 split at hv <;> try (cases hv; done)
 rename_i F1 S1 hpre
 refine ⟨⟨fn, hf, hname, by rw [hbody]; rfl⟩, callsIn_of_wp_marks hf hbody trivial ?_⟩
 obtain ⟨hF, htm⟩ := fr_enter (P := P) (w := w) (np := np) hr hcalm (by rw [hargs]; exact hnp)
 have I1 := inv_enter I hc
 refine wpIn_seq ?_
 refine codeN_ok (ro := none) hM hE hmix 60 hx (.inr rfl) hpre I1 hF htm trivial ⟨fun F' T2 e g1 w1 a1 hs => ?_, fun F' T2 e => (by cases e), fun id F' T2 e => (by cases e), fun v F' T2 e => (by cases e)⟩
 cases e
 refine wpIn_seq (wpIn_region ?_)
 subst hops
 obtain ⟨ho1, ho2, ho3⟩ := hom
 obtain ⟨hd1, hd2, hd3⟩ := hod
 -- the closure is made and put off
 let ptr : Value := a1.eval (.tmp b)
 let d : Deferred := { target := .fn (.func gf) #[ptr], args := #[] }
 have hev : (a1.put (some m) (.func (.func gf) #[] #[ptr])).eval (.tmp m) = .func (.func gf) #[] #[ptr] := by
  have hlt : m < a1.tmps.size := by rw [hs.fr.size]; exact hm
  simp [Act.put, Act.eval, hlt]
 have hstep : wpOpsIn (fen none) 0 P #[om, od] (Exit.then (y.wpIn Fence.wide 0 P (bodyPostM Fence.wide 0 P fn (OutPost P T g w T' out))) (bodyPostM Fence.wide 0 P fn (OutPost P T g w T' out))) (List.range 2) a1 w1 := by
  have hl : List.range 2 = [0, 1] := rfl
  rw [hl, wpOpsIn_cons]
  unfold wpOpIn
  have h0 : (#[om, od] : Array Oper)[0]? = some om := rfl
  have h1 : (#[om, od] : Array Oper)[1]? = some od := rfl
  simp only [h0]
  have hw0 : Region.wanted om (yielded #[om, od] a1.tmps) = true := by simp [Region.wanted, ho3]
  rw [if_pos hw0]
  refine go_value (x := .func (.func gf) #[] #[ptr]) (w' := w1) (by rw [ho1]; simp) (by simp [execOp, ho1, Instr.makeFunc, ptr]) ?_
  rw [wpOpsIn_cons]
  unfold wpOpIn
  simp only [h1]
  have hw1 : Region.wanted od (yielded #[om, od] (a1.put om.dst (.func (.func gf) #[] #[ptr])).tmps) = true := by simp [Region.wanted, hd3]
  rw [if_pos hw1]
  refine ⟨fun _ _ => trivial, ?_⟩
  have hrun : ((od.semAt (fen none).round (a1.put om.dst (.func (.func gf) #[] #[ptr])).eval)).run P w1 = .ok (.defer d) w1 := by
   show (execOp _ od).run P w1 = _
   rw [ho2]
   simp [execOp, hd1, resolve, hev, Deferred.ofValue, d]
  rw [hrun, Oper.uponIn_defer]
  simp only [wpOpsIn, hd2, ho2]
  show y.wpIn (fen none) 0 P (bodyPostM Fence.wide 0 P fn (OutPost P T g w T' out)) _ w1
  obtain ⟨bs1, hdf1, hmk1⟩ := hs.defs
  rw [List.append_nil] at hdf1
  have htu : ∀ t, tame (put F1 m .undef t) = true := tame_putO (d := some m) hs.tame rfl
  have hFu : FrRel P S1 g1 w1 fn.ntmps (put F1 m .undef) (a1.put (some m) (.func (.func gf) #[] #[ptr])).tmps :=
   FrRel.put (d := some m) hs.fr.size hs.fr.past (by simpa [inNt] using hm) (fun t y _ hy => hs.fr.tmp t y hy) (fun t _ => TmpAt.calm rfl (by simp [Rel]))
  have hS1 : S1.length = T.length + 1 := by simpa using hs.len
  have hleg : Le (T.length + 1) g g1 := hs.le
  -- what the closure was handed
  have hptr : ∀ l i, F1 b = .ptr l i 0 → l < T.length + 1 ∧ (∃ p, g1.al l i = some p) ∧ ptr = .pointer (some ⟨g1.bx l i, 0, none⟩) := fun l i h => by
   have := rel_tmp hs.fr b
   rw [h] at this
   simp only [Rel] at this
   rw [hS1] at this
   exact this
  have hinv1 : (invoke d.target d.args).run P w1 = .ok (.enter gf #[ptr]) w1 ∨ True := .inr trivial
  have hinvk : ∀ w', (invoke (.fn (.func gf) #[ptr]) #[]).run P w' = .ok (.enter gf #[ptr]) w' := fun w' => by
   simp [invoke, run_callFunc hgf.enters]
  cases hpost : codeN meth cE 60 post (put F1 m .undef) S1 with
  | none => rw [hpost] at hv; cases hv
  | some res =>
   rw [hpost] at hv
   refine codeN_ok (ro := none) hM hE hmix 60 hy (.inr rfl) hpost hs.inv hFu htu hs.flat ⟨fun F2 T2 e => (by subst e; simp at hv), fun F2 T2 e g3 w3 a3 hs3 => ?_, fun id F2 T2 e => (by subst e; simp at hv), fun v F2 T2 e g3 w3 x3 a3 hp3 => ?_⟩
   ·subst e
    obtain ⟨bs3, hdf3, hmk3⟩ := hs3.defs
    obtain ⟨bsT, R, hT2⟩ := hs3.flat.pos
    subst hT2
    have hRl : R.length = T.length := by have := hs3.len; simp at this; omega
    simp only at hv
    split at hv <;> try (cases hv; done)
    rename_i l i l' i' hF1b hF2b
    split at hv <;> try (cases hv; done)
    rename_i hll
    obtain ⟨hl0, hl1, hl2⟩ := hll
    subst hl1; subst hl2
    obtain ⟨v0, hv0, hout⟩ := Option.map_eq_some_iff.1 hv
    simp only [Prod.mk.injEq] at hout
    obtain ⟨rfl, rfl⟩ := hout
    show LeavesInM Fence.wide 0 P fn a3.tmps _ a3.defers .returning w3
    rw [hdf3]
    show LeavesInM Fence.wide 0 P fn a3.tmps _ (bs3.map mk ++ (d :: a1.defers)) .returning w3
    rw [hdf1]
    refine leaves_marks' (by simp) hmk3 fun w4 hsame4 hsz4 hk4 => ?_
    simp only [LeavesInM]
    refine ⟨by simp, .inr ⟨fun h => by simp [Fence.wide] at h, .func gf, #[ptr], gf, #[ptr], rfl, hinvk w4, fun _ _ => trivial, ?_⟩⟩
    refine CallsDIn.mono (hgf.ret w4 ptr) fun e u' w5 he => ?_
    obtain ⟨⟨v5, rfl⟩, hu5, rfl⟩ := he
    show LeavesInM Fence.wide 0 P fn a3.tmps _ (bs1.map mk) (Go.settle u') w5
    rw [hu5]
    have hmk5 : Marks w.heap.size g3 w5 bs1 := ⟨hmk1.1, fun c hc => by
     obtain ⟨k1, k2, k3, k4⟩ := hmk1.2 c hc
     obtain ⟨k5, k6⟩ := hs3.marks c k2 k3
     have hn3 : c ∉ bs3 := fun h => by have := (hmk3.2 c h).1; omega
     exact ⟨k1, by rw [hsz4]; exact Nat.lt_of_lt_of_le k2 hs3.frm.size, k5, (hk4 c hn3).trans (k6.trans k4)⟩⟩
    refine leaves_marks (by simp) hmk5 fun w6 hsame6 => ?_
    have I6 := inv_marks (inv_marks hs3.inv hsame4) hsame6
    obtain ⟨x, t0, u0, ex, hh, hub, rfl, hlow, hrel⟩ := box_res I6 hv0
    have hpp := rel_tmp hs3.fr b
    rw [hF2b] at hpp
    simp only [Rel] at hpp
    have hll : l' = R.length := by omega
    subst hll
    refine ⟨x, res_run hres hrg hpp.2.2 (by simp [World.cell?, hh]), g3, x, rfl, ⟨(hleg.trans (by have := hs3.le; rwa [hS1] at this)).less (Nat.le_succ _), fun l' hl' hu' => (hleg.trans (by have := hs3.le; rwa [hS1] at this)).lp l' (by omega) hu', ((hs.frm.trans hs3.frm).trans (hsame4.frm (by simp))).trans (hsame6.frm (by simp))⟩, inv_pop I6, hRl, rel_strip (rel_mono (Le.refl 0 g3) (Nat.zero_le _) _ _ hrel), tame_strip (tame_low hlow), fun e xs h => absurd h strip_own⟩
   ·subst e
    obtain ⟨bs3, hdf3, hmk3⟩ := hp3.defs
    have hle3 : Le (T.length + 1) g1 g3 := by have := hp3.pan.le; rwa [hS1] at this
    split at hv <;> try (cases hv; done)
    ·rename_i heq
     simp at heq
    rename_i t F2' L2 R heq
    simp only [Option.some.injEq, Prod.mk.injEq, Ex.pan.injEq] at heq
    obtain ⟨rfl, rfl, rfl⟩ := heq
    have hRl : R.length = T.length := by have := hp3.pan.len; simp at this; omega
    split at hv <;> try (cases hv; done)
    rename_i l i l' i' hF1b hF2b
    split at hv <;> try (cases hv; done)
    rename_i hll
    obtain ⟨hl0, hl1, hl2, ht⟩ := hll
    subst hl1; subst hl2; subst ht
    obtain ⟨v0, hv0, hout⟩ := Option.map_eq_some_iff.1 hv
    simp only [Prod.mk.injEq] at hout
    obtain ⟨rfl, rfl⟩ := hout
    have hx3 : x3 = .iface t (.agg #[]) := by
     have := hp3.pan.rel
     simp only [Rel, RelL] at this
     obtain ⟨y, rfl, vs, rfl, _, rfl⟩ := this
     rfl
    subst hx3
    have hll : l' = R.length := by omega
    subst hll
    obtain ⟨hp1, ⟨pp, hp2⟩, hp3'⟩ := hptr _ _ hF1b
    obtain ⟨e1, e2⟩ := hle3.bx _ _ pp hp1 hp2
    show LeavesInM Fence.wide 0 P fn a3.tmps _ a3.defers (.panicking _) w3
    rw [hdf3]
    show LeavesInM Fence.wide 0 P fn a3.tmps _ (bs3.map mk ++ (d :: a1.defers)) (.panicking _) w3
    rw [hdf1]
    refine leaves_marks' (by simp) hmk3 fun w4 hsame4 hsz4 hk4 => ?_
    have I4 := inv_marks hp3.pan.inv hsame4
    obtain ⟨x, t0, u0, ex, hh, hub, _, _, _⟩ := box_res I4 hv0
    simp only [LeavesInM]
    refine ⟨by simp, .inr ⟨fun h => by simp [Fence.wide] at h, .func gf, #[ptr], gf, #[ptr], rfl, hinvk w4, fun _ _ => trivial, ?_⟩⟩
    have hpp : ptr = .pointer (some ⟨g3.bx R.length i', 0, none⟩) := by rw [hp3', e1]
    rw [hpp]
    refine CallsDIn.mono (hgf.pan w4 _ t0 x ex hh) fun e u' w5 he => ?_
    obtain ⟨⟨v5, rfl⟩, hu5, hgd⟩ := he
    show LeavesInM Fence.wide 0 P fn a3.tmps _ (bs1.map mk) (Go.settle u') w5
    rw [hu5]
    have hsame5 : Same (· = .box R.length i') g3 w4 g3 w5 := ⟨hgd.os, hgd.tape, hgd.output, hgd.size, fun k hk hku => ⟨hgd.old k hk (fun e => hku (by rw [e]; exact hub)), rfl, fun _ => rfl⟩⟩
    have hmk5 : Marks w.heap.size g3 w5 bs1 := ⟨hmk1.1, fun c hc => by
     obtain ⟨k1, k2, k3, k4⟩ := hmk1.2 c hc
     obtain ⟨k5, k6⟩ := hp3.pan.marks c k2 k3
     have hn3 : c ∉ bs3 := fun h => by have := (hmk3.2 c h).1; omega
     have hc4 : c < w4.heap.size := by rw [hsz4]; exact Nat.lt_of_lt_of_le k2 hp3.pan.frm.size
     have hcb : c ≠ g3.bx R.length i' := fun e => by rw [e, hub] at k5; cases k5
     exact ⟨k1, Nat.lt_of_lt_of_le hc4 hgd.size, k5, (hgd.old c hc4 hcb).trans ((hk4 c hn3).trans (k6.trans k4))⟩⟩
    refine leaves_marks (by simp) hmk5 fun w6 hsame6 => ?_
    have I6 := inv_marks (inv_other (inv_pop I4) (Nat.le_refl _) hsame5) hsame6
    have hb6 : w6.heap[g3.bx R.length i']? = some (.cells ⟨.int .i64 1 :: ex⟩ t0 (0, 0)) := by
     rw [(hsame6.old _ (Array.getElem?_eq_some_iff.1 hgd.new).1 (by rw [hub]; simp)).1]
     exact hgd.new
    have hpt := rel_tmp hp3.pan.fr b
    rw [hF2b] at hpt
    simp only [Rel] at hpt
    have hle := hleg.trans hle3
    exact ⟨.int .i64 1, res_run hres hrg hpt.2.2 (by simp [World.cell?, hb6]), g3, .int .i64 1, rfl, ⟨hle.less (Nat.le_succ _), fun l' hl' hu' => hle.lp l' (by omega) hu', (((hs.frm.trans hp3.pan.frm).trans (hsame4.frm (by simp))).trans (hsame5.frm (by simp))).trans (hsame6.frm (by simp))⟩, I6, hRl, by simp [Rel], rfl, fun e xs h => by cases h⟩
 exact hstep
end
end AM
end Go.Proofs.YtimfbnojmdnlnaaGreat
