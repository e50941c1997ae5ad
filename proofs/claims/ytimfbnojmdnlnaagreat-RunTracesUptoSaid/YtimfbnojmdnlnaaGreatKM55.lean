/- RunTraces hands back true for every program, parameters and memory that it reads, of bulk at most 1048576 together. -/
import Derived.Test.YtimfbnojmdnlnaaGreatKSiR
import Derived.Test.YtimfbnojmdnlnaaGreatKM54
import Derived.OpenShut
import Derived.JoinedCond
set_option linter.all false
set_option maxRecDepth 100000
section
namespace Go.Proofs.YtimfbnojmdnlnaaGreat
namespace AM
open Go.RowKit Go.ChangeShapes Go.WideShapes Go.ChangeAt
namespace Wp
namespace Y
theorem traces_law {n m k:Nat} {vs:List V} {s t:V} (h:typed Tryz.prog n 26 vs) (h':typed Tryz.prog m 27 [s]) (h'':typed Tryz.prog k 70 [t]) (hw:wtL vs≤300000000) (hw1:wtL [s]≤300000000) (hw2:wtL [t]≤300000000)
  (hlaw:∀ (p:Prg) (b bm:Bool) (ps:List Int) (mem:List Mem),OkPrg p→wtL (encPrg p)≤300000000→(b=true→ps=[])→ps.length≤LIM→ps.length+mem.length+memLen mem≤1000000000000→(∀ m∈mem,m.n=true→m.row=[]) →
   EvC theEnv 8 [.agg (encPrg p), .slice (nk b) (ps.map encI), .slice (nk bm) (mem.map encMem)] (.bool true)):EvC theEnv 8 [.agg vs,s,t] (.bool true):=by
 obtain ⟨p,rfl,hp⟩:=ty_Prg h
 obtain ⟨b,xs,h4,h5,h6⟩:=ty_Ints h'
 obtain rfl:s=_:=(List.cons.inj h4).1
 obtain ⟨bm,mem,h7,h8⟩:=ty_Mems h''
 obtain rfl:t=_:=(List.cons.inj h7).1
 have a1:=wt_mems mem
 have a2:=rwtR_len (enc:=encI) (fun x=>by simp [encI,wtL,wt]) xs
 simp only [wtL,wt] at hw1 hw2
 exact hlaw p b bm xs mem hp hw h6 h5 (by omega) h8
theorem traces_calls {H:Type} {enc:TypeId×Value→H} {W:World} {base:Nat} {a b c:Value} {da db dc:DataW H} {pa pb pc:List MemPlace} (hs:W.ShapedOpen Tryz.prog) (ha:Value.okWide Tryz.prog W .any base 26 a) (hb:Value.okWide Tryz.prog W .any base 27 b) (hc:Value.okWide Tryz.prog W .any base 70 c)
  (ta:DataW.Trod enc Tryz.prog W 0 (fun _=>true) true 26 a da pa) (tb:DataW.Trod enc Tryz.prog W 0 (fun _=>true) true 27 b db pb) (tc:DataW.Trod enc Tryz.prog W 0 (fun _=>true) true 70 c dc pc)
  (hw:Rows.uptoBulk da≤300000000) (hw1:Rows.uptoBulk db≤300000000) (hw2:Rows.uptoBulk dc≤300000000):Calls Tryz.prog 8 #[a,b,c] W fun e W'=>e=.returned (.bool true)∧Below W.heap.size W W':=by
 obtain ⟨n,vs,h1,h2,h3⟩:=prog_arg ha ta
 obtain ⟨e1,he1⟩:=ints_slice
 obtain ⟨m,s,h4,h5,w1⟩:=slice_arg2 he1 (by decide) hb tb
 obtain ⟨e2,he2⟩:=mem_slice
 obtain ⟨k,t,h7,h8,w2⟩:=slice_arg2 he2 (by decide) hc tc
 obtain ⟨b1,xs,h6,_⟩:=ty_Ints h4
 obtain rfl:s=_:=(List.cons.inj h6).1
 obtain ⟨b2,mem,h9,_⟩:=ty_Mems h7
 obtain rfl:t=_:=(List.cons.inj h9).1
 obtain ⟨K,hK⟩:=traces_law h1 h4 h7 (by omega) (by omega) (by omega) fun p b bm ps mem hp h1 h2 h3 h4 h5=>(traceslaw_ok hp h1 b bm ps mem h2 h3 h4 h5).s []
 exact calls_true (vals:=[a,b,c]) (base_shaped hs) (by simp only [RelL]; exact ⟨_,_,rfl,h2,_,_,rfl,h5,_,_,rfl,h8,rfl⟩) (by intro v hv; simp at hv; rcases hv with rfl | rfl | rfl<;>first | rfl | (cases b1<;>rfl) | (cases b2<;>rfl)) (hK K (Nat.le_refl _))
end Y
end Wp
end AM
end Go.Proofs.YtimfbnojmdnlnaaGreat
end
section
namespace Go.Proofs.YtimfbnojmdnlnaaGreat
namespace LawTraces
open Go.ChangeShapes Go.WideShapes Go.ChangeAt Go.RowKit
theorem returnsInHanded_of_cond_shaped {H:Type} {enc:TypeId×Value→H} {a:Assume} {C:Checked} {os:Os} {f:FuncId} {fn:Func} {s:OpenSpec} {k:(H:Type)→List (DataW H)→Bool} (hk:s.cond=some k) {F:Stop.Interp} {conds:List PathCond} {apart fresh handsOn again:Bool}
  (own:ownKnob C.prog.godebug=none) (started:os.Started) (noInit:C.prog.inits.idxOf? f=none) (hfn:C.prog.funcs[f]?=some fn)
  (witness:∃ (w:World) (tape:Tape) (i:Input),w.os=os∧(w.forCall tape i).Shaped C.prog∧i.vars=[]∧Input.okWide C.prog (w.forCall tape i) .any w.heap.size f i ∧
   s.pre6 enc C.prog fn conds apart (w.forCall tape i).memory i.args∧a.holds C.prog (lone (Frame.enter C.prog f i.args .normal) [] (w.forCall tape i)))
  (contract:∀ (W:World) (base:Nat) (args:Array Value) (ds gs:List (DataW H)) (before:List MemPlace),W.ShapedOpen C.prog →
   (∀ (j:Nat) t v,fn.params[j]?=some t→args[j]?=some v→Value.okWide C.prog W .any base t v) →
   DataW.Whole enc C.prog fn.params.toList s.vars apart W args.toList ds gs before→k H (ds++gs)=true →
   Calls C.prog f args W fun e W'=>∃ v,e=.returned v∧(s.at F).post enc C.prog fn apart fresh handsOn again W args v W') :
  ReturnsInHanded a C os f .any (s.pre6 enc C.prog fn conds apart) ((s.at F).post enc C.prog fn apart fresh handsOn again):=by
 refine returnsInHanded_of_calls own started noInit witness ?_
 intro w tape i _ hsh _ hok hpre _
 obtain ⟨_,_,_,fn',hfn',_,_,_,_,hval⟩:=hok
 have e:fn'=fn:=Option.some.inj (hfn'.symm.trans hfn)
 subst e
 obtain ⟨ds,gs,before,hw,_,hkk⟩:=(OpenSpec.pre_some hk conds apart _ _).1 hpre.1
 have hw':=DataW.Whole.of_heap (w':=w.forCall tape i) (by rfl) hw
 refine (contract (w.forCall tape i) w.heap.size i.args ds gs before hsh hval hw' hkk).mono fun e W' ⟨v,he,hp⟩=>?_
 subst he
 exact ChangeSpec.post_blind hp
theorem contract (H:Type) (enc:TypeId×Value→H) (W:World) (base:Nat) (args:Array Value) (ds gs:List (DataW H)) (before:List MemPlace) (hs:W.ShapedOpen Tryz.prog)
  (hval:∀ (j:Nat) t v,Tryz.f8.params[j]?=some t→args[j]?=some v→Value.okWide Tryz.prog W .any base t v)
  (hW:DataW.Whole enc Tryz.prog Tryz.f8.params.toList Rows.runTracesSpec.vars false W args.toList ds gs before) (hk:Rows.uptoSmall H (ds++gs)=true) :
  Calls Tryz.prog 8 args W fun e W'=>∃ v,e=.returned v∧Rows.runTracesSpec.post enc Tryz.prog Tryz.f8 false true false false W args v W':=by
 have hW':=hW
 obtain ⟨p,q,hA0,hV,rfl,hfz,hnd⟩:=hW
 have hA:DataW.TrodAll enc Tryz.prog W 0 (fun _=>true) true Tryz.f8.params.toList args.toList ds p:=hA0
 rw [Tryz.params8] at hA hval
 obtain ⟨v0,vs0,d0,ds0,p0,q0,hargs,rfl,rfl,h0,r0⟩:=trodAll_cons hA
 obtain ⟨v1,vs1,d1,ds1,p1,q1,rfl,rfl,rfl,h1,r1⟩:=trodAll_cons r0
 obtain ⟨v2,vs2,d2,ds2,p2,q2,rfl,rfl,rfl,h2,r2⟩:=trodAll_cons r1
 obtain ⟨rfl,rfl,rfl⟩:=trodAll_nil r2
 obtain rfl:args=#[v0,v1,v2]:=by cases args; simp_all
 obtain ⟨rfl,rfl⟩:=trodVars_none hV
 have hb:=of_decide_eq_true hk
 have hbulk:Rows.uptoBulk d0≤300000000∧Rows.uptoBulk d1≤300000000∧Rows.uptoBulk d2≤300000000:=by
  simp only [List.append_nil,Rows.uptoBulkAll] at hb
  omega
 refine (AM.Wp.Y.traces_calls hs (hval 0 26 v0 rfl rfl) (hval 1 27 v1 rfl rfl) (hval 2 70 v2 rfl rfl) h0 h1 h2 hbulk.1 hbulk.2.1 hbulk.2.2).mono fun e W' ⟨he,hg⟩=>?_
 subst he
 exact ⟨_,rfl,AM.post_true AM.laid_ok hW' hg rfl (tb:=4) (by kernel_rfl) (by kernel_rfl) (fun t ht=>by
  have h26:t=26∨t=27∨t=70:=by simpa [Tryz.params8] using ht
  rcases h26 with rfl | rfl | rfl<;>exact ⟨by kernel_rfl,of_decide_eq_true (by kernel_rfl)⟩) ⟨rfl,rfl,rfl⟩⟩
theorem lifted (os:Os) (started:os.Started) (H:Type) (enc:TypeId×Value→H) (F:Stop.Interp) :
  ReturnsInHanded Rows.runTracesUptoRow.assume Tryz.checked os 8 .any ((Rows.OpenSpec.upto Rows.runTracesSpec).pre6 enc Tryz.prog Tryz.f8 Rows.runTracesUptoRow.domain false) (((Rows.OpenSpec.upto Rows.runTracesSpec).at F).post enc Tryz.prog Tryz.f8 false true false false):=by
 refine returnsInHanded_of_cond_shaped (C:=Tryz.checked) (s:=Rows.OpenSpec.upto Rows.runTracesSpec) (k:=Rows.uptoSmall) rfl AM.own_ok started (by kernel_rfl) Tryz.func8
  (OpenSpec.witness (enc:=enc) (C:=Tryz.checked) (s:=Rows.OpenSpec.upto Rows.runTracesSpec) (k:=Rows.uptoSmall) rfl false ⟨#[], #[.agg #[.slice none 0 0, .slice none 0 0, .slice none 0 0], .slice none 0 0, .slice none 0 0],[]⟩ 8 (by kernel_rfl) (by kernel_rfl) (by kernel_rfl)
   (x:=([.agg [.nil, .nil, .nil], .nil, .nil],[],[])) (by kernel_rfl) rfl (by kernel_rfl)) ?_
 intro W base args ds gs before hs hval hW hk
 exact contract H enc W base args ds gs before hs hval hW hk
theorem over:Rows.runTracesUptoRow.holds Tryz.pinned (Rows.OpenSpec.upto Rows.runTracesSpec) :=
 OpenClaim.holds_of_cond 8 Tryz.f8 rfl rfl rfl rfl rfl rfl rfl ⟨rfl,rfl,rfl,rfl,rfl⟩ rfl rfl rfl rfl rfl (by kernel_rfl) Tryz.func8 (by kernel_rfl)
  (of_decide_eq_true (by kernel_rfl)) (by unfold Func.isWrapper; first | (rw [if_pos (by decide +kernel)]; kernel_rfl) | (rw [if_neg (by decide +kernel)]; exact ⟨rfl,rfl⟩))
  (fun os started H enc _ F=>lifted os started H enc F)
theorem proved:Rows.RunTracesUptoSaid :=
 over
#print axioms proved
end LawTraces
end Go.Proofs.YtimfbnojmdnlnaaGreat
end
