/- A function with two results in variables and one deferred closure that takes a panic back and writes both. -/
import Derived.Test.YtimfbnojmdnlnaaKM10
set_option linter.all false
namespace Go.Proofs.Ytimfbnojmdnlnaa
namespace AM
def runL (meth:Nat→String→Option Nat) (cE:CE):List ACode→Fr→St→Option (Fr×St)
 | [],F,S=>some (F,S)
 | p::ps,F,S=>match codeN meth cE 60 p F S with
  | some (.nrm,F',S')=>runL meth cE ps F' S'
  | _=>none
def nest:List Code→Code→Code
 | [],d=>d
 | x::xs,d=>.seq x (nest xs d)
def guardH2 (meth:Nat→String→Option Nat) (np:Nat) (pre:List ACode) (post:ACode) (b c m ty:Nat):CE→List V→St→Option (Out×St):=fun cE args S =>
 if args.length=np then
  match runL meth cE pre (args0 args) (⟨[],none⟩::S) with
  | some (F1,S1) =>
   (match codeN meth cE 60 post (put F1 m .undef) S1 with
   | some (.ret,F2,T::R) =>
    (match F1 b,F1 c,F2 b,F2 c with
    | .ptr l i 0, .ptr k j 0, .ptr l' i' 0, .ptr k' j' 0=>if l=S.length∧l'=l∧i'=i∧k=S.length∧k'=k∧j'=j then (oneBox T i).bind fun v=>(oneBox T j).map fun u=>(.ret (.tup [v,u]),R) else none
    | _,_,_,_=>none)
   | some (.pan (.ifc t (.agg [.int .i64 e])),F2,T::R) =>
    (match F1 b,F1 c,F2 b,F2 c with
    | .ptr l i 0, .ptr k j 0, .ptr l' i' 0, .ptr k' j' 0=>if l=S.length∧l'=l∧i'=i∧k=S.length∧k'=k∧j'=j∧t=ty∧i≠j then (oneBox T i).bind fun v=>(oneBox T j).map fun u=>(.ret (.tup [.int .i64 0, .int .i64 e]),R) else none
    | _,_,_,_=>none)
   | _=>none)
  | _=>none
 else none
section
variable {P:Program} {T:St} {g:Gh} {w:World} {cE:CE}
structure Guarded2 (w w':World) (blk blk2 t0 t2:Nat) (ex ex2:List Value) (e:Int):Prop where
 os:w'.os=w.os
 tape:w'.tape=w.tape
 output:w'.output=w.output
 size:w.heap.size≤w'.heap.size
 new:w'.heap[blk]?=some (.cells ⟨.int .i64 0::ex⟩ t0 (0,0))
 new2:w'.heap[blk2]?=some (.cells ⟨.int .i64 e::ex2⟩ t2 (0,0))
 old:∀ k,k < w.heap.size→k≠blk→k≠blk2→w'.heap[k]?=w.heap[k]?
structure GuardFn2 (P:Program) (gf ty:Nat):Prop where
 enters:Enters P gf
 ret:∀ (w:World) (x y:Value),CallsDIn Fence.wide 0 P gf #[x,y] .returning w fun e u' w'=>(∃ v,e=.returned v)∧Go.settle u'=.returning∧w'=w
 pan:∀ (w:World) (blk blk2 t0 t2:Nat) (old old2:Value) (ex ex2:List Value) (e:Int),blk≠blk2→w.heap[blk]?=some (.cells ⟨old::ex⟩ t0 (0,0))→w.heap[blk2]?=some (.cells ⟨old2::ex2⟩ t2 (0,0)) →
  CallsDIn Fence.wide 0 P gf #[.pointer (some ⟨blk,0,none⟩), .pointer (some ⟨blk2,0,none⟩)] (.panicking [{ v:=.iface ty (.agg #[.int .i64 e]),recovered:=false }]) w fun e' u' w' =>
  (∃ v,e'=.returned v)∧Go.settle u'=.returning∧Guarded2 w w' blk blk2 t0 t2 ex ex2 e
theorem res_run2 {fn:Func} {tmps:Array Value} {b c rt rt2 blk blk2:Nat} {v u:Value} (hres:fn.results=#[.cell b rt, .cell c rt2]) (hrg:aggOf P rt=some false) (hrg2:aggOf P rt2=some false) (hp:tmps.getD b undef=.pointer (some ⟨blk,0,none⟩)) (hp2:tmps.getD c undef=.pointer (some ⟨blk2,0,none⟩)) (hc:w.cell? ⟨blk,0,none⟩=some v) (hc2:w.cell? ⟨blk2,0,none⟩=some u):(Go.results fn tmps).run P w=.ok (.tuple #[v,u]) w:=by
 have h1:(resSem tmps (.cell b rt)).run P w=.ok v w:=by
  simp only [resSem,hp,asAddr,Sem.run_bind,Sem.run_pure,Result.andThen_ok]
  simp [loadVar,run_isAgg hrg,hc]
 have h2:(resSem tmps (.cell c rt2)).run P w=.ok u w:=by
  simp only [resSem,hp2,asAddr,Sem.run_bind,Sem.run_pure,Result.andThen_ok]
  simp [loadVar,run_isAgg hrg2,hc2]
 rw [results_eq,Array.mapM_eq_mapM_toList,hres]
 simp [h1,h2]
theorem inv_other2 (I:Inv P T g w) {L i j:Nat} (hL:T.length≤L) {w':World} (h:Same (fun u=>u=.box L i∨u=.box L j) g w g w'):Inv P T g w':={
 K:=I.K
 G b o v hv:=by
  obtain ⟨h1,h2⟩:=I.G b o v hv
  refine ⟨?_,h2⟩
  rw [cell?_eq (h.old b (G_lt I hv) (fun e=>by rcases e with e | e<;>(rw [e] at h2; simp at h2))).1]
  exact h1
 U b hb:=I.U b (Nat.le_trans h.size hb)
 B l j cs hc:=(I.B l j cs hc).same I h (Le.refl _ _) (by have:=getBox_lt hc; simp; omega) (by simp)
 L l p hp:=(I.L l p hp).same h (Le.refl _ _) ⟨rfl,(I.L l p hp).1⟩ (by simp)
 N:=I.N }
theorem nest_ok {meth:Nat→String→Option Nat} (hM:MethOk P meth) (hE:CallOk P cE) (hmix:P.follows .mixedOrders=true) {rs:List Nat} {nt:Nat} {d:Code} {Q:Exit→Act→World→Prop}:∀ {xs:List Code} {ps:List ACode} {F F1:Fr} {T T1:St} {g:Gh} {w:World} {a:Act},
  xs.mapM (compC P nt rs)=some ps→runL meth cE ps F T=some (F1,T1)→Inv P T g w→FrRel P T g w nt F a.tmps→(∀ t,tame (F t)=true)→Flat T→(∀ g1 w1 a1,CodeTo P T g w a nt T1 F1 g1 w1 a1→d.wpIn Fence.wide 0 P Q a1 w1)→(nest xs d).wpIn Fence.wide 0 P Q a w
 | [],ps,F,F1,T,T1,g,w,a,hc,hr,I,hF,ht,hfl,hK=>by
  simp at hc; subst hc
  simp only [runL,Option.some.injEq,Prod.mk.injEq] at hr
  obtain ⟨rfl,rfl⟩:=hr
  exact hK g w a ⟨Le.refl _ _,Frm.refl _ _,I,hF,rfl,hfl,ht,fun b _ h=>⟨h,rfl⟩,[],by simp,by simp [Marks]⟩
 | x::xs,ps,F,F1,T,T1,g,w,a,hc,hr,I,hF,ht,hfl,hK=>by
  simp only [List.mapM_cons,Option.bind_eq_bind,Option.bind_eq_some_iff,Option.pure_def,Option.some.injEq] at hc
  obtain ⟨p,hp,ps',hps,rfl⟩:=hc
  simp only [runL] at hr
  split at hr<;>try (cases hr; done)
  rename_i F' S' hcode
  refine wpIn_seq ?_
  refine codeN_ok (ro:=none) hM hE hmix 60 hp (.inr rfl) hcode I hF ht hfl ⟨fun F2 T2 e g1 w1 a1 hs=>?_,fun F' T2 e=>(by cases e),fun id F' T2 e=>(by cases e),fun v F' T2 e=>(by cases e)⟩
  cases e
  exact nest_ok hM hE hmix hps hr hs.inv hs.fr hs.tame hs.flat fun g2 w2 a2 hs2=>hK g2 w2 a2 (hs.trans hs2)
theorem guard2_ok {meth:Nat→String→Option Nat} (hM:MethOk P meth) (hE:CallOk P cE) (hmix:P.follows .mixedOrders=true) {f gf np b c m ty rt rt2 id:Nat} {fn:Func} {xs:List Code} {y:Code} {ops:Array Oper} {om od:Oper} {rs1 rs2:List Nat} {pre:List ACode} {post:ACode} {ts:Array TypeId}
  (hf : P.funcs[f]? = some fn) (hname : fn.name ≠ "runtime.NumGoroutine") (hbody : fn.body = some (nest xs (.seq (.region id ops false) y)))
  (hx:xs.mapM (compC P fn.ntmps rs1)=some pre) (hy:compC P fn.ntmps rs2 y=some post) (hops:ops=#[om,od]) (hom:om.op=.makeFunc (.func gf) #[] #[.tmp b, .tmp c]∧om.dst=some m∧om.guard=none)
  (hod:od.op=.defer { callee:=.value (.tmp m),args:=#[],argTypes:=ts }∧od.dst=none∧od.guard=none) (hm:m < fn.ntmps) (hmb:m≠b) (hmc:m≠c) (hnp:np≤fn.ntmps) (hres:fn.results=#[.cell b rt, .cell c rt2]) (hrg:aggOf P rt=some false) (hrg2:aggOf P rt2=some false)
  (hgf:GuardFn2 P gf ty) {args:List V} {out:Out} {T':St} (hv:guardH2 meth np pre post b c m ty cE args T=some (out,T')) {vals:List Value} (I:Inv P T g w) (hc:Clean T.length g) (hr:RelL g (T.length+1) args vals) (hcalm:∀ v∈args,isCalm v=true) :
  Enters P f∧CallsIn Fence.wide 0 P f ⟨vals⟩ w (OutPost P T g w T' out):=by
 unfold guardH2 at hv
 split at hv<;>try (cases hv; done)
 rename_i hargs
 split at hv<;>try (cases hv; done)
 rename_i F1 S1 hpre
 refine ⟨⟨fn,hf,hname,by rw [hbody]; rfl⟩,callsIn_of_wp_marks hf hbody trivial ?_⟩
 obtain ⟨hF,htm⟩:=fr_enter (P:=P) (w:=w) (np:=np) hr hcalm (by rw [hargs]; exact hnp)
 have I1:=inv_enter I hc
 refine nest_ok hM hE hmix hx hpre I1 hF htm trivial fun g1 w1 a1 hs=>?_
 refine wpIn_seq (wpIn_region ?_)
 subst hops
 obtain ⟨ho1,ho2,ho3⟩:=hom
 obtain ⟨hd1,hd2,hd3⟩:=hod
 -- the closure is made and put off
 let ptr:Value:=a1.eval (.tmp b)
 let ptr2:Value:=a1.eval (.tmp c)
 let d:Deferred:={ target:=.fn (.func gf) #[ptr,ptr2],args:=#[] }
 have hev:(a1.put (some m) (.func (.func gf) #[] #[ptr,ptr2])).eval (.tmp m)=.func (.func gf) #[] #[ptr,ptr2]:=by
  have hlt:m < a1.tmps.size:=by rw [hs.fr.size]; exact hm
  simp [Act.put,Act.eval,hlt]
 have hstep:wpOpsIn (fen none) 0 P #[om,od] (Exit.then (y.wpIn Fence.wide 0 P (bodyPostM Fence.wide 0 P fn (OutPost P T g w T' out))) (bodyPostM Fence.wide 0 P fn (OutPost P T g w T' out))) (List.range 2) a1 w1:=by
  have hl:List.range 2=[0,1]:=rfl
  rw [hl,wpOpsIn_cons]
  unfold wpOpIn
  have h0:(#[om,od]:Array Oper)[0]?=some om:=rfl
  have h1:(#[om,od]:Array Oper)[1]?=some od:=rfl
  simp only [h0]
  have hw0:Region.wanted om (yielded #[om,od] a1.tmps)=true:=by simp [Region.wanted,ho3]
  rw [if_pos hw0]
  refine go_value (x:=.func (.func gf) #[] #[ptr,ptr2]) (w':=w1) (by rw [ho1]; simp) (by simp [execOp,ho1,Instr.makeFunc,ptr,ptr2]) ?_
  rw [wpOpsIn_cons]
  unfold wpOpIn
  simp only [h1]
  have hw1:Region.wanted od (yielded #[om,od] (a1.put om.dst (.func (.func gf) #[] #[ptr,ptr2])).tmps)=true:=by simp [Region.wanted,hd3]
  rw [if_pos hw1]
  refine ⟨fun _ _=>trivial,?_⟩
  have hrun:((od.semAt (fen none).round (a1.put om.dst (.func (.func gf) #[] #[ptr,ptr2])).eval)).run P w1=.ok (.defer d) w1:=by
   show (execOp _ od).run P w1=_
   rw [ho2]
   simp [execOp,hd1,resolve,hev,Deferred.ofValue,d]
  rw [hrun,Oper.uponIn_defer]
  simp only [wpOpsIn,hd2,ho2]
  show y.wpIn (fen none) 0 P (bodyPostM Fence.wide 0 P fn (OutPost P T g w T' out)) _ w1
  obtain ⟨bs1,hdf1,hmk1⟩:=hs.defs
  rw [List.append_nil] at hdf1
  have htu:∀ t,tame (put F1 m .undef t)=true:=tame_putO (d:=some m) hs.tame rfl
  have hFu:FrRel P S1 g1 w1 fn.ntmps (put F1 m .undef) (a1.put (some m) (.func (.func gf) #[] #[ptr,ptr2])).tmps :=
   FrRel.put (d:=some m) hs.fr.size hs.fr.past (by simpa [inNt] using hm) (fun t y _ hy=>hs.fr.tmp t y hy) (fun t _=>TmpAt.calm rfl (by simp [Rel]))
  have hS1:S1.length=T.length+1:=by simpa using hs.len
  have hleg:Le (T.length+1) g g1:=hs.le
  -- what the closure was handed
  have hptr0:∀ q l i,F1 q=.ptr l i 0→l < T.length+1∧(∃ p,g1.al l i=some p)∧a1.eval (.tmp q)=.pointer (some ⟨g1.bx l i,0,none⟩):=fun q l i h=>by
   have:=rel_tmp hs.fr q
   rw [h] at this
   simp only [Rel] at this
   rw [hS1] at this
   exact this
  have hinvk:∀ w',(invoke (.fn (.func gf) #[ptr,ptr2]) #[]).run P w'=.ok (.enter gf #[ptr,ptr2]) w':=fun w'=>by
   simp [invoke,run_callFunc hgf.enters]
  cases hpost:codeN meth cE 60 post (put F1 m .undef) S1 with
  | none=>rw [hpost] at hv; cases hv
  | some res =>
   rw [hpost] at hv
   refine codeN_ok (ro:=none) hM hE hmix 60 hy (.inr rfl) hpost hs.inv hFu htu hs.flat ⟨fun F2 T2 e=>(by subst e; simp at hv),fun F2 T2 e g3 w3 a3 hs3=>?_,fun id F2 T2 e=>(by subst e; simp at hv),fun v F2 T2 e g3 w3 x3 a3 hp3=>?_⟩
   ·subst e
    obtain ⟨bs3,hdf3,hmk3⟩:=hs3.defs
    obtain ⟨bsT,R,hT2⟩:=hs3.flat.pos
    subst hT2
    have hRl:R.length=T.length:=by have:=hs3.len; simp at this; omega
    simp only at hv
    split at hv<;>try (cases hv; done)
    rename_i l i k j l' i' k' j' hF1b hF1c hF2b hF2c
    split at hv<;>try (cases hv; done)
    rename_i hll
    obtain ⟨hl0,hl1,hl2,hl3,hl4,hl5⟩:=hll
    subst hl1; subst hl2; subst hl4; subst hl5
    obtain ⟨v0,hv0,hv⟩:=Option.bind_eq_some_iff.1 hv
    obtain ⟨v1,hv1,hout⟩:=Option.map_eq_some_iff.1 hv
    simp only [Prod.mk.injEq] at hout
    obtain ⟨rfl,rfl⟩:=hout
    show LeavesInM Fence.wide 0 P fn a3.tmps _ a3.defers .returning w3
    rw [hdf3]
    show LeavesInM Fence.wide 0 P fn a3.tmps _ (bs3.map mk++(d::a1.defers)) .returning w3
    rw [hdf1]
    refine leaves_marks' (by simp) hmk3 fun w4 hsame4 hsz4 hk4=>?_
    simp only [LeavesInM]
    refine ⟨by simp, .inr ⟨fun h=>by simp [Fence.wide] at h, .func gf, #[ptr,ptr2],gf, #[ptr,ptr2],rfl,hinvk w4,fun _ _=>trivial,?_⟩⟩
    refine CallsDIn.mono (hgf.ret w4 ptr ptr2) fun e u' w5 he=>?_
    obtain ⟨⟨v5,rfl⟩,hu5,rfl⟩:=he
    show LeavesInM Fence.wide 0 P fn a3.tmps _ (bs1.map mk) (Go.settle u') w5
    rw [hu5]
    have hmk5:Marks w.heap.size g3 w5 bs1:=⟨hmk1.1,fun c hc=>by
     obtain ⟨k1,k2,k3,k4⟩:=hmk1.2 c hc
     obtain ⟨k5,k6⟩:=hs3.marks c k2 k3
     have hn3:c ∉ bs3:=fun h=>by have:=(hmk3.2 c h).1; omega
     exact ⟨k1,by rw [hsz4]; exact Nat.lt_of_lt_of_le k2 hs3.frm.size,k5,(hk4 c hn3).trans (k6.trans k4)⟩⟩
    refine leaves_marks (by simp) hmk5 fun w6 hsame6=>?_
    have I6:=inv_marks (inv_marks hs3.inv hsame4) hsame6
    obtain ⟨x,t0,u0,ex,hh,hub,rfl,hlow,hrel⟩:=box_res I6 hv0
    obtain ⟨x',t0',u0',ex',hh',hub',rfl,hlow',hrel'⟩:=box_res I6 hv1
    have hpp:=rel_tmp hs3.fr b
    rw [hF2b] at hpp
    simp only [Rel] at hpp
    have hpc:=rel_tmp hs3.fr c
    rw [hF2c] at hpc
    simp only [Rel] at hpc
    have hll:l'=R.length:=by omega
    subst hll
    have hkk:k'=R.length:=by omega
    subst hkk
    have hle:=(hleg.trans (by have:=hs3.le; rwa [hS1] at this))
    exact ⟨.tuple #[x,x'],res_run2 hres hrg hrg2 hpp.2.2 hpc.2.2 (by simp [World.cell?,hh]) (by simp [World.cell?,hh']),g3, .tuple #[x,x'],rfl,⟨hle.less (Nat.le_succ _),fun l' hl' hu'=>hle.lp l' (by omega) hu',((hs.frm.trans hs3.frm).trans (hsame4.frm (by simp))).trans (hsame6.frm (by simp))⟩,inv_pop I6,hRl,by
     simp only [Rel,RelL]
     exact ⟨[x,x'],rfl,_,_,rfl,rel_strip (rel_mono (Le.refl 0 g3) (Nat.zero_le _) _ _ hrel),_,_,rfl,rel_strip (rel_mono (Le.refl 0 g3) (Nat.zero_le _) _ _ hrel'),rfl⟩,rfl,fun e xs h=>by cases h⟩
   ·subst e
    obtain ⟨bs3,hdf3,hmk3⟩:=hp3.defs
    have hle3:Le (T.length+1) g1 g3:=by have:=hp3.pan.le; rwa [hS1] at this
    split at hv<;>try (cases hv; done)
    ·rename_i heq
     simp at heq
    rename_i t en F2' L2 R heq
    simp only [Option.some.injEq,Prod.mk.injEq,Ex.pan.injEq] at heq
    obtain ⟨rfl,rfl,rfl⟩:=heq
    have hRl:R.length=T.length:=by have:=hp3.pan.len; simp at this; omega
    split at hv<;>try (cases hv; done)
    rename_i l i k j l' i' k' j' hF1b hF1c hF2b hF2c
    split at hv<;>try (cases hv; done)
    rename_i hll
    obtain ⟨hl0,hl1,hl2,hl3,hl4,hl5,ht,hij⟩:=hll
    subst hl1; subst hl2; subst hl4; subst hl5; subst ht
    obtain ⟨v0,hv0,hv⟩:=Option.bind_eq_some_iff.1 hv
    obtain ⟨v1,hv1,hout⟩:=Option.map_eq_some_iff.1 hv
    simp only [Prod.mk.injEq] at hout
    obtain ⟨rfl,rfl⟩:=hout
    have hx3:x3=.iface t (.agg #[.int .i64 en]):=by
     have:=hp3.pan.rel
     simp only [Rel,RelL] at this
     obtain ⟨y,rfl,vs,rfl,_,u,us,rfl,rfl,rfl⟩:=this
     rfl
    subst hx3
    have hll:l'=R.length:=by omega
    subst hll
    have hkk:k'=R.length:=by omega
    subst hkk
    obtain ⟨hp1,⟨pp,hp2⟩,hp3'⟩:=hptr0 _ _ _ hF1b
    obtain ⟨e1,e2⟩:=hle3.bx _ _ pp hp1 hp2
    obtain ⟨hq1,⟨qq,hq2⟩,hq3'⟩:=hptr0 _ _ _ hF1c
    obtain ⟨e3,e4⟩:=hle3.bx _ _ qq hq1 hq2
    show LeavesInM Fence.wide 0 P fn a3.tmps _ a3.defers (.panicking _) w3
    rw [hdf3]
    show LeavesInM Fence.wide 0 P fn a3.tmps _ (bs3.map mk++(d::a1.defers)) (.panicking _) w3
    rw [hdf1]
    refine leaves_marks' (by simp) hmk3 fun w4 hsame4 hsz4 hk4=>?_
    have I4:=inv_marks hp3.pan.inv hsame4
    obtain ⟨x,t0,u0,ex,hh,hub,_,_,_⟩:=box_res I4 hv0
    obtain ⟨x',t0',u0',ex',hh',hub',_,_,_⟩:=box_res I4 hv1
    have hbb:g3.bx R.length i'≠g3.bx R.length j':=fun e=>by
     rw [e,hub'] at hub
     simp only [Use.box.injEq,true_and] at hub
     exact hij hub.symm
    simp only [LeavesInM]
    refine ⟨by simp, .inr ⟨fun h=>by simp [Fence.wide] at h, .func gf, #[ptr,ptr2],gf, #[ptr,ptr2],rfl,hinvk w4,fun _ _=>trivial,?_⟩⟩
    have hpp:ptr=.pointer (some ⟨g3.bx R.length i',0,none⟩):=by rw [e1]; exact hp3'
    have hqq:ptr2=.pointer (some ⟨g3.bx R.length j',0,none⟩):=by rw [e3]; exact hq3'
    rw [hpp,hqq]
    refine CallsDIn.mono (hgf.pan w4 _ _ t0 t0' x x' ex ex' en hbb hh hh') fun e u' w5 he=>?_
    obtain ⟨⟨v5,rfl⟩,hu5,hgd⟩:=he
    show LeavesInM Fence.wide 0 P fn a3.tmps _ (bs1.map mk) (Go.settle u') w5
    rw [hu5]
    have hsame5:Same (fun u=>u=.box R.length i'∨u=.box R.length j') g3 w4 g3 w5:=⟨hgd.os,hgd.tape,hgd.output,hgd.size,fun k hk hku=>⟨hgd.old k hk (fun e=>hku (.inl (by rw [e]; exact hub))) (fun e=>hku (.inr (by rw [e]; exact hub'))),rfl,fun _=>rfl⟩⟩
    have hmk5:Marks w.heap.size g3 w5 bs1:=⟨hmk1.1,fun c hc=>by
     obtain ⟨k1,k2,k3,k4⟩:=hmk1.2 c hc
     obtain ⟨k5,k6⟩:=hp3.pan.marks c k2 k3
     have hn3:c ∉ bs3:=fun h=>by have:=(hmk3.2 c h).1; omega
     have hc4:c < w4.heap.size:=by rw [hsz4]; exact Nat.lt_of_lt_of_le k2 hp3.pan.frm.size
     have hcb:c≠g3.bx R.length i':=fun e=>by rw [e,hub] at k5; cases k5
     have hcb2:c≠g3.bx R.length j':=fun e=>by rw [e,hub'] at k5; cases k5
     exact ⟨k1,Nat.lt_of_lt_of_le hc4 hgd.size,k5,(hgd.old c hc4 hcb hcb2).trans ((hk4 c hn3).trans (k6.trans k4))⟩⟩
    refine leaves_marks (by simp) hmk5 fun w6 hsame6=>?_
    have I6:=inv_marks (inv_other2 (inv_pop I4) (Nat.le_refl _) hsame5) hsame6
    have hb6:w6.heap[g3.bx R.length i']?=some (.cells ⟨.int .i64 0::ex⟩ t0 (0,0)):=by
     rw [(hsame6.old _ (Array.getElem?_eq_some_iff.1 hgd.new).1 (by rw [hub]; simp)).1]
     exact hgd.new
    have hb7:w6.heap[g3.bx R.length j']?=some (.cells ⟨.int .i64 en::ex'⟩ t0' (0,0)):=by
     rw [(hsame6.old _ (Array.getElem?_eq_some_iff.1 hgd.new2).1 (by rw [hub']; simp)).1]
     exact hgd.new2
    have hpt:=rel_tmp hp3.pan.fr b
    rw [hF2b] at hpt
    simp only [Rel] at hpt
    have hpc:=rel_tmp hp3.pan.fr c
    rw [hF2c] at hpc
    simp only [Rel] at hpc
    have hle:=hleg.trans hle3
    exact ⟨.tuple #[.int .i64 0, .int .i64 en],res_run2 hres hrg hrg2 hpt.2.2 hpc.2.2 (by simp [World.cell?,hb6]) (by simp [World.cell?,hb7]),g3,_,rfl,⟨hle.less (Nat.le_succ _),fun l' hl' hu'=>hle.lp l' (by omega) hu',(((hs.frm.trans hp3.pan.frm).trans (hsame4.frm (by simp))).trans (hsame5.frm (by simp))).trans (hsame6.frm (by simp))⟩,I6,hRl,by simp [Rel,RelL],rfl,fun e xs h=>by cases h⟩
 exact hstep
end
end AM
end Go.Proofs.Ytimfbnojmdnlnaa
