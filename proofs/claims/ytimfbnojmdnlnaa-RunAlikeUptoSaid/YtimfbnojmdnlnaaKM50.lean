/- RunAlike hands back true for every program, parameters and memory that it reads, of bulk at most 1048576 together. -/
import Derived.Test.YtimfbnojmdnlnaaKM22
import Derived.Test.YtimfbnojmdnlnaaKM23
import Derived.Test.YtimfbnojmdnlnaaKM49
import Derived.OpenShut
import Derived.JoinedCond
set_option linter.all false
set_option maxRecDepth 100000
section
namespace Go.Proofs.Ytimfbnojmdnlnaa
namespace AM
open Go.RowKit Go.ChangeShapes Go.WideShapes Go.ChangeAt
namespace Wp
theorem ints_slice:∃ e,Try.prog.underlying 35=some (.slice e):=by
 have h:(Try.prog.underlying 35).map (fun d=>match d with | .slice _=>true | _=>false)=some true:=by kernel_rfl
 cases hu:Try.prog.underlying 35 with
 | none=>rw [hu] at h; cases h
 | some d=>rw [hu] at h; cases d<;>simp at h; exact ⟨_,rfl⟩
theorem ty_Ints {n:Nat} {cs:List V} (h:typed Try.prog n 35 cs):∃ b xs,cs=[.slice (nk b) (xs.map encI)]∧xs.length≤LIM∧(b=true→xs=[]):=by
 obtain ⟨b,ys,h1,h2,_,h3⟩:=ty_sl (P:=Try.prog) (t:=35) (e:=3) (c:=1) (enc:=encI) (Ok:=fun _=>True) (by kernel_rfl) h (fun m _ x hx=>by
  obtain ⟨i,hi,_⟩:=ty_int hx
  exact ⟨i,hi,trivial⟩)
 exact ⟨b,ys,h1,h2,h3⟩
end Wp
end AM
end Go.Proofs.Ytimfbnojmdnlnaa
end
section
namespace Go.Proofs.Ytimfbnojmdnlnaa
namespace AM
open Go.RowKit Go.ChangeShapes Go.WideShapes Go.ChangeAt
namespace Wp
namespace Y
def memTysA:List Nat:=[66,35,3]
theorem mem_closedA:closedT Try.prog memTysA=true:=by kernel_rfl
theorem slice_arg2 {H:Type} {enc:TypeId×Value→H} {W:World} {base:Nat} {t e:Nat} {v:Value} {d:DataW H} {ps:List MemPlace} (hu:Try.prog.underlying t=some (.slice e)) (ht:t∈memTysA) (hv:Value.okWide Try.prog W .any base t v) (h:DataW.Trod enc Try.prog W 0 (fun _=>true) true t v d ps) :
  ∃ n s,typed Try.prog n t [s]∧Rel (g0 W) 1 s v∧wtL [s]≤Rows.uptoBulk d:=by
 unfold Value.okWide at hv
 rw [hu] at hv
 simp only [Cell.okWide,hu,Cell.ok] at hv
 have hcs:v.cells=#[v]:=by
  cases v<;>first | rfl | (simp at hv)
 obtain ⟨n,hn⟩:=h
 obtain ⟨vs,h1,h2,h3,h4⟩:=trod_open mem_closedA n t _ d ps ht hn
 rw [hcs] at h1
 cases vs with
 | nil=>simp [RelL] at h1
 | cons s ss =>
  simp only [RelL] at h1
  obtain ⟨u,us,h5,h6,h7⟩:=h1
  simp only [List.cons.injEq] at h5
  obtain ⟨rfl,rfl⟩:=h5
  cases ss with
  | nil=>exact ⟨n,s,h3,rel_mono (Le.refl 0 _) (Nat.zero_le _) _ _ h6,h4⟩
  | cons s2 ss =>
   simp only [RelL] at h7
   obtain ⟨_,_,h8,_⟩:=h7
   cases h8
theorem sl_of {t:Nat} (h:(Try.prog.underlying t).map (fun d=>match d with | .slice _=>true | _=>false)=some true):∃ e,Try.prog.underlying t=some (.slice e):=by
 cases hu:Try.prog.underlying t with
 | none=>rw [hu] at h; cases h
 | some d=>rw [hu] at h; cases d<;>simp at h; exact ⟨_,rfl⟩
theorem mem_slice:∃ e,Try.prog.underlying 66=some (.slice e):=sl_of (by kernel_rfl)
theorem ty_Mems {n:Nat} {cs:List V} (h:typed Try.prog n 66 cs):∃ (b:Bool) (mem:List Mem),cs=[.slice (nk b) (mem.map encMem)]∧(∀ m∈mem,m.n=true→m.row=[]):=by
 obtain ⟨b,ys,h1,h2,h3,h4⟩:=ty_sl (P:=Try.prog) (t:=66) (e:=35) (c:=1) (enc:=encMem) (Ok:=fun m=>m.n=true→m.row=[]) (by kernel_rfl) h (fun m _ x hx=>by
  obtain ⟨b,xs,hi,_,hz⟩:=ty_Ints hx
  exact ⟨⟨b,xs⟩,hi,hz⟩)
 exact ⟨b,ys,h1,h3⟩
theorem wt_mems:∀ (mem:List Mem),mem.length+memLen mem≤wtR (mem.map encMem)
 | []=>by simp [memLen]
 | m::l=>by
  have:=wt_mems l
  have:=rwtR_len (enc:=encI) (fun x=>by simp [encI,wtL,wt]) m.row
  simp only [List.length_cons,memLen,List.map_cons,wtR,encMem,wtL,wt]; omega
theorem alike_law {n m k:Nat} {vs:List V} {s t:V} (h:typed Try.prog n 26 vs) (h':typed Try.prog m 35 [s]) (h'':typed Try.prog k 66 [t]) (hw:wtL vs≤300000000) (hw1:wtL [s]≤300000000) (hw2:wtL [t]≤300000000)
  (hlaw:∀ (p:Prg) (b bm:Bool) (ps:List Int) (mem:List Mem),OkPrg p→wtL (encPrg p)≤300000000→(b=true→ps=[])→ps.length≤LIM→ps.length+mem.length+memLen mem≤1000000000000→(∀ m∈mem,m.n=true→m.row=[]) →
   EvC theEnv 7 [.agg (encPrg p), .slice (nk b) (ps.map encI), .slice (nk bm) (mem.map encMem)] (.bool true)):EvC theEnv 7 [.agg vs,s,t] (.bool true):=by
 obtain ⟨p,rfl,hp⟩:=ty_Prg h
 obtain ⟨b,xs,h4,h5,h6⟩:=ty_Ints h'
 obtain rfl:s=_:=(List.cons.inj h4).1
 obtain ⟨bm,mem,h7,h8⟩:=ty_Mems h''
 obtain rfl:t=_:=(List.cons.inj h7).1
 have a1:=wt_mems mem
 have a2:=rwtR_len (enc:=encI) (fun x=>by simp [encI,wtL,wt]) xs
 simp only [wtL,wt] at hw1 hw2
 exact hlaw p b bm xs mem hp hw h6 h5 (by omega) h8
theorem alike_calls {H:Type} {enc:TypeId×Value→H} {W:World} {base:Nat} {a b c:Value} {da db dc:DataW H} {pa pb pc:List MemPlace} (hs:W.ShapedOpen Try.prog) (ha:Value.okWide Try.prog W .any base 26 a) (hb:Value.okWide Try.prog W .any base 35 b) (hc:Value.okWide Try.prog W .any base 66 c)
  (ta:DataW.Trod enc Try.prog W 0 (fun _=>true) true 26 a da pa) (tb:DataW.Trod enc Try.prog W 0 (fun _=>true) true 35 b db pb) (tc:DataW.Trod enc Try.prog W 0 (fun _=>true) true 66 c dc pc)
  (hw:Rows.uptoBulk da≤300000000) (hw1:Rows.uptoBulk db≤300000000) (hw2:Rows.uptoBulk dc≤300000000):Calls Try.prog 7 #[a,b,c] W fun e W'=>e=.returned (.bool true)∧Below W.heap.size W W':=by
 obtain ⟨n,vs,h1,h2,h3⟩:=prog_arg ha ta
 obtain ⟨e1,he1⟩:=ints_slice
 obtain ⟨m,s,h4,h5,w1⟩:=slice_arg2 he1 (by decide) hb tb
 obtain ⟨e2,he2⟩:=mem_slice
 obtain ⟨k,t,h7,h8,w2⟩:=slice_arg2 he2 (by decide) hc tc
 obtain ⟨b1,xs,h6,_⟩:=ty_Ints h4
 obtain rfl:s=_:=(List.cons.inj h6).1
 obtain ⟨b2,mem,h9,_⟩:=ty_Mems h7
 obtain rfl:t=_:=(List.cons.inj h9).1
 obtain ⟨K,hK⟩:=alike_law h1 h4 h7 (by omega) (by omega) (by omega) fun p b bm ps mem hp h1 h2 h3 h4 h5=>alikelaw_ok hp h1 b bm ps mem h2 h3 h4 h5
 exact calls_true (vals:=[a,b,c]) (base_shaped hs) (by simp only [RelL]; exact ⟨_,_,rfl,h2,_,_,rfl,h5,_,_,rfl,h8,rfl⟩) (by intro v hv; simp at hv; rcases hv with rfl | rfl | rfl<;>first | rfl | (cases b1<;>rfl) | (cases b2<;>rfl)) (hK K (Nat.le_refl _))
end Y
end Wp
end AM
end Go.Proofs.Ytimfbnojmdnlnaa
end
section
namespace Go.Proofs.Ytimfbnojmdnlnaa
namespace LawAlike
open Go.ChangeShapes Go.WideShapes Go.ChangeAt Go.RowKit
theorem returnsInHanded_of_cond_shaped {H:Type} {enc:TypeId×Value→H} {a:Assume} {C:Checked} {os:Os} {f:FuncId} {fn:Func} {s:OpenSpec} {k:(H:Type)→List (DataW H)→Bool} (hk:s.cond=some k) {F:Stop.Interp} {conds:List PathCond} {apart fresh handsOn again:Bool}
  (own:ownKnob C.prog.godebug=none) (started:os.Started) (noInit:C.prog.inits.idxOf? f=none) (hfn:C.prog.funcs[f]?=some fn)
  (witness:∃ (w:World) (tape:Tape) (i:Input),w.os=os∧(w.forCall tape i).Shaped C.prog∧i.vars=[]∧Input.okWide C.prog (w.forCall tape i) .any w.heap.size f i ∧
   s.pre6 enc C.prog fn conds apart (w.forCall tape i).memory i.args∧a.holds C.prog (lone (Frame.enter C.prog f i.args .normal) [] (w.forCall tape i)))
  (contract:∀ (W:World) (base:Nat) (args:Array Value) (ds gs:List (DataW H)) (before:List MemPlace),W.ShapedOpen C.prog →
   (∀ (j:Nat) t v,fn.params[j]?=some t→args[j]?=some v→Value.okWide C.prog W .any base t v) →
   DataW.Whole enc C.prog fn.params.toList s.vars apart W args.toList ds gs before→k H (ds++gs)=true →
   Calls C.prog f args W fun e W'=>∃ v,e=.returned v∧(s.at F).post enc C.prog fn apart fresh handsOn again W args v W') :
  ReturnsInHanded a C os f .any (s.pre6 enc C.prog fn conds apart) ((s.at F).post enc C.prog fn apart fresh handsOn again):=by
 refine returnsInHanded_of_calls own started noInit witness ?_
 intro w tape i _ hsh _ hok hpre _
 obtain ⟨_,_,_,fn',hfn',_,_,_,_,hval⟩:=hok
 have e:fn'=fn:=Option.some.inj (hfn'.symm.trans hfn)
 subst e
 obtain ⟨ds,gs,before,hw,_,hkk⟩:=(OpenSpec.pre_some hk conds apart _ _).1 hpre.1
 have hw':=DataW.Whole.of_heap (w':=w.forCall tape i) (by rfl) hw
 refine (contract (w.forCall tape i) w.heap.size i.args ds gs before hsh hval hw' hkk).mono fun e W' ⟨v,he,hp⟩=>?_
 subst he
 exact ChangeSpec.post_blind hp
theorem contract (H:Type) (enc:TypeId×Value→H) (W:World) (base:Nat) (args:Array Value) (ds gs:List (DataW H)) (before:List MemPlace) (hs:W.ShapedOpen Try.prog)
  (hval:∀ (j:Nat) t v,Try.f7.params[j]?=some t→args[j]?=some v→Value.okWide Try.prog W .any base t v)
  (hW:DataW.Whole enc Try.prog Try.f7.params.toList Rows.runAlikeSpec.vars false W args.toList ds gs before) (hk:Rows.uptoSmall H (ds++gs)=true) :
  Calls Try.prog 7 args W fun e W'=>∃ v,e=.returned v∧Rows.runAlikeSpec.post enc Try.prog Try.f7 false true false false W args v W':=by
 have hW':=hW
 obtain ⟨p,q,hA0,hV,rfl,hfz,hnd⟩:=hW
 have hA:DataW.TrodAll enc Try.prog W 0 (fun _=>true) true Try.f7.params.toList args.toList ds p:=hA0
 rw [Try.params7] at hA hval
 obtain ⟨v0,vs0,d0,ds0,p0,q0,hargs,rfl,rfl,h0,r0⟩:=trodAll_cons hA
 obtain ⟨v1,vs1,d1,ds1,p1,q1,rfl,rfl,rfl,h1,r1⟩:=trodAll_cons r0
 obtain ⟨v2,vs2,d2,ds2,p2,q2,rfl,rfl,rfl,h2,r2⟩:=trodAll_cons r1
 obtain ⟨rfl,rfl,rfl⟩:=trodAll_nil r2
 obtain rfl:args=#[v0,v1,v2]:=by cases args; simp_all
 obtain ⟨rfl,rfl⟩:=trodVars_none hV
 have hb:=of_decide_eq_true hk
 have hbulk:Rows.uptoBulk d0≤300000000∧Rows.uptoBulk d1≤300000000∧Rows.uptoBulk d2≤300000000:=by
  simp only [List.append_nil,Rows.uptoBulkAll] at hb
  omega
 refine (AM.Wp.Y.alike_calls hs (hval 0 26 v0 rfl rfl) (hval 1 35 v1 rfl rfl) (hval 2 66 v2 rfl rfl) h0 h1 h2 hbulk.1 hbulk.2.1 hbulk.2.2).mono fun e W' ⟨he,hg⟩=>?_
 subst he
 exact ⟨_,rfl,AM.post_true AM.laid_ok hW' hg rfl (tb:=4) (by kernel_rfl) (by kernel_rfl) (fun t ht=>by
  have h26:t=26∨t=35∨t=66:=by simpa [Try.params7] using ht
  rcases h26 with rfl | rfl | rfl<;>exact ⟨by kernel_rfl,of_decide_eq_true (by kernel_rfl)⟩) ⟨rfl,rfl,rfl⟩⟩
theorem lifted (os:Os) (started:os.Started) (H:Type) (enc:TypeId×Value→H) (F:Stop.Interp) :
  ReturnsInHanded Rows.runAlikeUptoRow.assume Try.checked os 7 .any ((Rows.OpenSpec.upto Rows.runAlikeSpec).pre6 enc Try.prog Try.f7 Rows.runAlikeUptoRow.domain false) (((Rows.OpenSpec.upto Rows.runAlikeSpec).at F).post enc Try.prog Try.f7 false true false false):=by
 refine returnsInHanded_of_cond_shaped (C:=Try.checked) (s:=Rows.OpenSpec.upto Rows.runAlikeSpec) (k:=Rows.uptoSmall) rfl AM.own_ok started (by kernel_rfl) Try.func7
  (OpenSpec.witness (enc:=enc) (C:=Try.checked) (s:=Rows.OpenSpec.upto Rows.runAlikeSpec) (k:=Rows.uptoSmall) rfl false ⟨#[], #[.agg #[.slice none 0 0, .slice none 0 0, .slice none 0 0], .slice none 0 0, .slice none 0 0],[]⟩ 8 (by kernel_rfl) (by kernel_rfl) (by kernel_rfl)
   (x:=([.agg [.nil, .nil, .nil], .nil, .nil],[],[])) (by kernel_rfl) rfl (by kernel_rfl)) ?_
 intro W base args ds gs before hs hval hW hk
 exact contract H enc W base args ds gs before hs hval hW hk
theorem over:Rows.runAlikeUptoRow.holds Try.pinned (Rows.OpenSpec.upto Rows.runAlikeSpec) :=
 OpenClaim.holds_of_cond 7 Try.f7 rfl rfl rfl rfl rfl rfl rfl ⟨rfl,rfl,rfl,rfl,rfl⟩ rfl rfl rfl rfl rfl (by kernel_rfl) Try.func7 (by kernel_rfl)
  (of_decide_eq_true (by kernel_rfl)) (by unfold Func.isWrapper; first | (rw [if_pos (by decide +kernel)]; kernel_rfl) | (rw [if_neg (by decide +kernel)]; exact ⟨rfl,rfl⟩))
  (fun os started H enc _ F=>lifted os started H enc F)
theorem proved:Rows.RunAlikeUptoSaid :=
 over
#print axioms proved
end LawAlike
end Go.Proofs.Ytimfbnojmdnlnaa
end
