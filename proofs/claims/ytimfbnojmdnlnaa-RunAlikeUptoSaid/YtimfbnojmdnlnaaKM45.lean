/- run.executed for whatever is told of uses; run.Insts: the closure that is told of uses; run.Insts: what the closure writes; assignments of a blind machine. -/
import Derived.Test.YtimfbnojmdnlnaaKM44
import Derived.Test.YtimfbnojmdnlnaaKM32
set_option linter.all false
set_option maxRecDepth 100000
section
namespace Go.Proofs.Ytimfbnojmdnlnaa
namespace AM
namespace Wp
namespace Y
variable {U:St} {T:Lev} {B1:List (List V)} {B0:St} {L:Nat} {c:Mc} {x:List Int} {st:Int} {rows:List (List Int)} {ins:List Ins} {evs:List Ev}
def ExecP (L:Nat) (dry:Bool) (mv:V) (J:List Ins→List Ev→St→Prop) (t:Tr) (o:Out) (S:St):Prop :=
 match t.r with
 | .ok st rows=>o=.ret (.tup [.int .i64 st, .int .i64 0])∧S.length=L∧calmS S=true∧J t.i t.l S∧(dry=false→MB S mv rows)
 | .pan e=>o=.ret (.tup [.int .i64 0, .int .i64 e])∧S.length=L∧calmS S=true
theorem exec_pre {p:Prg} {b bs:Bool} {ps:List Int} (hz:b=true→ps=[]) (hpl:ps.length≤1000) {sh:List Shape} {mv:V} (hcm:calmC [mv]=true) (hmv:cp mv=some mv∧strip mv=mv∧tame mv=true∧cellsOf mv=some [mv]) {dry:Bool} {g oi fi:Nat} {J:List Ins→List Ev→St→Prop} (hJ:J [] [] B0) (hr:dry=false→MB B0 mv rows∧Fit sh rows) (hc0:calmS B0=true) :
  ∃ (c:Mc) (B1:List (List V)),c.L=B0.length∧c.sh=sh∧c.mv=mv∧c.np=ps.length∧c.dry=dry∧c.uf=.func (.func g) [.ptr 0 oi 0, .ptr 0 fi 0]∧c.J=J∧MI c ps 0 rows [] [] B1 B0∧bget B1 0=some (encPrg p)∧∃ (F:Fr) (K:Nat),(∀ j,K≤j→runL theMeth (callN theEnv j) [pre570,pre571,pre572] (args0 [.agg (encPrg p), .slice (nk b) (ps.map encI),mv, .slice (nk bs) (sh.map encShape), .bool dry, .func (.func g) [.ptr 0 oi 0, .ptr 0 fi 0]]) (⟨[],none⟩::B0)=some (F,⟨B1,none⟩::B0)) ∧
   F 6=.ptr B0.length 0 0∧F 12=.ptr B0.length 2 0∧F 13=.ptr B0.length 3 0∧F 14=.ptr B0.length c.vi 0:=by
 obtain ⟨hcp,hst,htm,hcel⟩:=hmv
 obtain ⟨⟨e1,F1,S1⟩,⟨K1,k1⟩,q1⟩:=EvQ_flat (n:=60) (EvQ_run (E:=theEnv) (c:=pre570) (F:=args0 [.agg (encPrg p), .slice (nk b) (ps.map encI),mv, .slice (nk bs) (sh.map encShape), .bool dry, .func (.func g) [.ptr 0 oi 0, .ptr 0 fi 0]]) (S:=⟨[],none⟩::B0)
  (Q:=fun e F S'=>e=.nrm∧(F 1=.slice (nk b) (ps.map encI)∧F 2=mv∧F 3=.slice (nk bs) (sh.map encShape)∧F 4=.bool dry∧F 6=.ptr B0.length 0 0∧F 11=.ptr B0.length 1 0∧F 12=.ptr B0.length 2 0∧F 13=.ptr B0.length 3 0)∧S'=⟨[encPrg p,[.func (.func g) [.ptr 0 oi 0, .ptr 0 fi 0]],[.int .i64 0],[.int .i64 0]],none⟩::B0) (by
   simp only [pre570,go_sem,simprocAttr])) rfl (by decide)
 simp only at q1
 obtain ⟨rfl,f1,rfl⟩:=q1
 cases b with
 | true =>
  obtain rfl:ps=[]:=hz rfl
  obtain ⟨⟨e2,F2,S2⟩,⟨K2,k2⟩,q2⟩:=EvQ_flat (n:=60) (EvQ_run (E:=theEnv) (c:=pre571) (F:=F1) (S:=⟨[encPrg p,[.func (.func g) [.ptr 0 oi 0, .ptr 0 fi 0]],[.int .i64 0],[.int .i64 0]],none⟩::B0)
   (Q:=fun e F S'=>e=.nrm∧(F 6=.ptr B0.length 0 0∧F 11=.ptr B0.length 1 0∧F 12=.ptr B0.length 2 0∧F 13=.ptr B0.length 3 0∧F 14=.ptr B0.length 5 0)∧S'=⟨[encPrg p,[.func (.func g) [.ptr 0 oi 0, .ptr 0 fi 0]],[.int .i64 0],[.int .i64 0],[.slice (nk bs) (sh.map encShape),mv, .int .i64 (([]:List Int).length:Int), .slice .nil [], .int .i64 0, .bool dry, .nilf, .func (.func 116) [], .func (.func 118) [], .func (.func 119) [], .func (.func 120) [], .func (.func 121) []],[.ptr B0.length 4 0]],none⟩::B0) (by
    simp only [pre571,go_sem,simprocAttr,f1,hcp,hst,htm]
    rw [Callr_clone (clone3_ok true [] (by simp)) (by simp only [go_sem,simprocAttr,f1])]
    simp only [go_sem,simprocAttr,f1,hcp,hst,htm,hcel,plain_ok.call,Nat.lt_succ_self])) rfl (by decide)
  simp only at q2
  obtain ⟨rfl,f2,rfl⟩:=q2
  obtain ⟨⟨e3,F3,S3⟩,⟨K3,k3⟩,q3⟩:=EvQ_flat (n:=60) (EvQ_run (E:=theEnv) (c:=pre572) (F:=F2) (S:=⟨[encPrg p,[.func (.func g) [.ptr 0 oi 0, .ptr 0 fi 0]],[.int .i64 0],[.int .i64 0],[.slice (nk bs) (sh.map encShape),mv, .int .i64 (([]:List Int).length:Int), .slice .nil [], .int .i64 0, .bool dry, .nilf, .func (.func 116) [], .func (.func 118) [], .func (.func 119) [], .func (.func 120) [], .func (.func 121) []],[.ptr B0.length 4 0]],none⟩::B0)
   (Q:=fun e F S'=>e=.nrm∧(F 6=.ptr B0.length 0 0∧F 12=.ptr B0.length 2 0∧F 13=.ptr B0.length 3 0∧F 14=.ptr B0.length 5 0)∧S'=⟨[encPrg p,[.func (.func g) [.ptr 0 oi 0, .ptr 0 fi 0]],[.int .i64 0],[.int .i64 0],[.slice (nk bs) (sh.map encShape),mv, .int .i64 (([]:List Int).length:Int), .slice .nil [], .int .i64 0, .bool dry, .func (.func 92) [.ptr B0.length 1 0, .ptr B0.length 5 0], .func (.func 116) [], .func (.func 118) [], .func (.func 119) [], .func (.func 120) [], .func (.func 121) []],[.ptr B0.length 4 0]],none⟩::B0) (by
    simp only [pre572,go_sem,simprocAttr,f2,Nat.lt_succ_self])) rfl (by decide)
  simp only at q3
  obtain ⟨rfl,f3,rfl⟩:=q3
  refine ⟨⟨B0.length,sh,bs,mv,0,5,4,dry, .func (.func g) [.ptr 0 oi 0, .ptr 0 fi 0],J⟩,[encPrg p,[.func (.func g) [.ptr 0 oi 0, .ptr 0 fi 0]],[.int .i64 0],[.int .i64 0],[.slice (nk bs) (sh.map encShape),mv, .int .i64 (([]:List Int).length:Int), .slice .nil [], .int .i64 0, .bool dry, .func (.func 92) [.ptr B0.length 1 0, .ptr B0.length 5 0], .func (.func 116) [], .func (.func 118) [], .func (.func 119) [], .func (.func 120) [], .func (.func 121) []],[.ptr B0.length 4 0]],rfl,rfl,rfl,rfl,rfl,rfl,rfl,⟨rfl,⟨.slice .nil [],rfl, .inl ⟨rfl,rfl⟩⟩,rfl,rfl,hr,⟨rfl,rfl⟩,?_,hc0,hcm,hJ,_,_,rfl⟩,rfl,F3,max K1 (max K2 K3),fun j hj=>?_,f3⟩
  ·have hcz:=calm_cells (c:=⟨B0.length,sh,bs,mv,0,5,4,dry, .func (.func g) [.ptr 0 oi 0, .ptr 0 fi 0],J⟩) (st:=0) (xv:=.slice .nil []) hcm rfl
   unfold Mc.cells Mc.uv machU at hcz
   have hg:calmC [.func (.func g) [.ptr 0 oi 0, .ptr 0 fi 0]]=true:=rfl
   simp only [go_sem,simprocAttr,calmC_Prg,calm_ints,hg] at hcz ⊢
   exact hcz
  ·have hm:theEnv.meth=theMeth:=rfl
   rw [hm] at k1 k2 k3
   simp only [runL,k1 j (by omega),k2 j (by omega),k3 j (by omega)]
 | false =>
  skip
  obtain ⟨⟨e2,F2,S2⟩,⟨K2,k2⟩,q2⟩:=EvQ_flat (n:=60) (EvQ_run (E:=theEnv) (c:=pre571) (F:=F1) (S:=⟨[encPrg p,[.func (.func g) [.ptr 0 oi 0, .ptr 0 fi 0]],[.int .i64 0],[.int .i64 0]],none⟩::B0)
   (Q:=fun e F S'=>e=.nrm∧(F 6=.ptr B0.length 0 0∧F 11=.ptr B0.length 1 0∧F 12=.ptr B0.length 2 0∧F 13=.ptr B0.length 3 0∧F 14=.ptr B0.length 6 0)∧S'=⟨[encPrg p,[.func (.func g) [.ptr 0 oi 0, .ptr 0 fi 0]],[.int .i64 0],[.int .i64 0],ints ps,[.slice (nk bs) (sh.map encShape),mv, .int .i64 (ps.length:Int), .bsl B0.length 4 0 ps.length 1 3, .int .i64 0, .bool dry, .nilf, .func (.func 116) [], .func (.func 118) [], .func (.func 119) [], .func (.func 120) [], .func (.func 121) []],[.ptr B0.length 5 0]],none⟩::B0) (by
    simp only [pre571,go_sem,simprocAttr,f1,hcp,hst,htm]
    rw [Callr_clone (clone3_ok false ps (by omega)) (by simp only [go_sem,simprocAttr,f1])]
    simp only [go_sem,simprocAttr,f1,hcp,hst,htm,hcel,plain_ok.call,Nat.lt_succ_self])) rfl (by decide)
  simp only at q2
  obtain ⟨rfl,f2,rfl⟩:=q2
  obtain ⟨⟨e3,F3,S3⟩,⟨K3,k3⟩,q3⟩:=EvQ_flat (n:=60) (EvQ_run (E:=theEnv) (c:=pre572) (F:=F2) (S:=⟨[encPrg p,[.func (.func g) [.ptr 0 oi 0, .ptr 0 fi 0]],[.int .i64 0],[.int .i64 0],ints ps,[.slice (nk bs) (sh.map encShape),mv, .int .i64 (ps.length:Int), .bsl B0.length 4 0 ps.length 1 3, .int .i64 0, .bool dry, .nilf, .func (.func 116) [], .func (.func 118) [], .func (.func 119) [], .func (.func 120) [], .func (.func 121) []],[.ptr B0.length 5 0]],none⟩::B0)
   (Q:=fun e F S'=>e=.nrm∧(F 6=.ptr B0.length 0 0∧F 12=.ptr B0.length 2 0∧F 13=.ptr B0.length 3 0∧F 14=.ptr B0.length 6 0)∧S'=⟨[encPrg p,[.func (.func g) [.ptr 0 oi 0, .ptr 0 fi 0]],[.int .i64 0],[.int .i64 0],ints ps,[.slice (nk bs) (sh.map encShape),mv, .int .i64 (ps.length:Int), .bsl B0.length 4 0 ps.length 1 3, .int .i64 0, .bool dry, .func (.func 92) [.ptr B0.length 1 0, .ptr B0.length 6 0], .func (.func 116) [], .func (.func 118) [], .func (.func 119) [], .func (.func 120) [], .func (.func 121) []],[.ptr B0.length 5 0]],none⟩::B0) (by
    simp only [pre572,go_sem,simprocAttr,f2,Nat.lt_succ_self])) rfl (by decide)
  simp only at q3
  obtain ⟨rfl,f3,rfl⟩:=q3
  refine ⟨⟨B0.length,sh,bs,mv,ps.length,6,5,dry, .func (.func g) [.ptr 0 oi 0, .ptr 0 fi 0],J⟩,[encPrg p,[.func (.func g) [.ptr 0 oi 0, .ptr 0 fi 0]],[.int .i64 0],[.int .i64 0],ints ps,[.slice (nk bs) (sh.map encShape),mv, .int .i64 (ps.length:Int), .bsl B0.length 4 0 ps.length 1 3, .int .i64 0, .bool dry, .func (.func 92) [.ptr B0.length 1 0, .ptr B0.length 6 0], .func (.func 116) [], .func (.func 118) [], .func (.func 119) [], .func (.func 120) [], .func (.func 121) []],[.ptr B0.length 5 0]],rfl,rfl,rfl,rfl,rfl,rfl,rfl,⟨rfl,⟨.bsl B0.length 4 0 ps.length 1 3,rfl, .inr ⟨4,[],by decide,rfl,by rw [List.append_nil]; exact dz_ints ps⟩⟩,rfl,rfl,hr,⟨rfl,rfl⟩,?_,hc0,hcm,hJ,_,_,rfl⟩,rfl,F3,max K1 (max K2 K3),fun j hj=>?_,f3⟩
  ·have hcz:=calm_cells (c:=⟨B0.length,sh,bs,mv,ps.length,6,5,dry, .func (.func g) [.ptr 0 oi 0, .ptr 0 fi 0],J⟩) (st:=0) (xv:=.bsl B0.length 4 0 ps.length 1 3) hcm rfl
   unfold Mc.cells Mc.uv machU at hcz
   have hg:calmC [.func (.func g) [.ptr 0 oi 0, .ptr 0 fi 0]]=true:=rfl
   simp only [go_sem,simprocAttr,calmC_Prg,calm_ints,hg] at hcz ⊢
   exact hcz
  ·have hm:theEnv.meth=theMeth:=rfl
   rw [hm] at k1 k2 k3
   simp only [runL,k1 j (by omega),k2 j (by omega),k3 j (by omega)]
theorem exec_run {p:Prg} (hp:OkPrg p) {b bs:Bool} {ps:List Int} (hz:b=true→ps=[]) (hpl:ps.length≤1000) {sh:List Shape} {mv:V} (hcm:calmC [mv]=true) (hmv:cp mv=some mv∧strip mv=mv∧tame mv=true∧cellsOf mv=some [mv]) {dry:Bool} {g oi fi:Nat} {J:List Ins→List Ev→St→Prop} (hJ:J [] [] B0) (hr:dry=false→MB B0 mv rows∧Fit sh rows) (hc0:calmS B0=true)
  (hbody:∀ c:Mc,c.L=B0.length→c.sh=sh→c.mv=mv→c.np=ps.length→c.dry=dry→c.uf=.func (.func g) [.ptr 0 oi 0, .ptr 0 fi 0]→c.J=J→BodyQ c ps.length p.body) (hxr:InRng ps) :
  CallQ theEnv (.fn 57) [.agg (encPrg p), .slice (nk b) (ps.map encI),mv, .slice (nk bs) (sh.map encShape), .bool dry, .func (.func g) [.ptr 0 oi 0, .ptr 0 fi 0]] B0 (ExecP B0.length dry mv J (bodyT sh ps.length dry p.body ps 0 0 rows)):=by
 obtain ⟨c,B1,hL,rfl,rfl,hnp,rfl,huf,rfl,hM,hb0,F,K,hrun,f6,f12,f13,f14⟩:=exec_pre (p:=p) (bs:=bs) (g:=g) (oi:=oi) (fi:=fi) hz hpl hcm hmv hJ hr hc0
 have hx:theEnv.ext 57=some (guardH2 theMeth 6 [pre570,pre571,pre572] post57 12 13 29 170):=rfl
 have hq:=hbody c hL rfl rfl hnp rfl huf rfl p.bn ps 0 0 rows [] [] B1 B0 [] rfl hxr rfl hM
 rw [hnp] at hq
 generalize bodyT c.sh ps.length c.dry p.body ps 0 0 rows=tot at hq ⊢
 obtain ⟨⟨e,F2,S2⟩,⟨K2,k2⟩,q2⟩:=EvQ_flat (n:=60) (EvQ_run (E:=theEnv) (c:=post57) (F:=put F 29 .undef) (S:=⟨B1,none⟩::B0)
  (Q:=fun e F S'=>F 12=.ptr B0.length 2 0∧F 13=.ptr B0.length 3 0∧∃ (B1':List (List V)) (B0':St),S'=⟨B1',none⟩::B0'∧B0'.length=B0.length∧calmS B0'=true ∧
   match tot.r with
   | .ok st rows=>e=.ret∧bget B1' 2=some [.int .i64 st]∧bget B1' 3=some [.int .i64 0]∧c.J tot.i tot.l B0'∧(c.dry=false→MB B0' c.mv rows)
   | .pan e'=>e=.pan (ended e')∧PI B1') (by
   simp only [post57,go_sem,simprocAttr,f6,f12,f13,f14,hb0,hM.v,hL]
   have hq':CallQ theEnv (.fn 94) [.ptr B0.length c.mi 0, .slice (nk p.bn) (p.body.map encStm), .int .i64 0] (⟨B1,none⟩::B0) (EndQ c ps [] [] [] tot):=by rw [hL] at hq; exact hq
   refine CallPQ hq' low0_ptr rfl ?_
   rintro o S' ⟨B1',B0',rfl,hend⟩
   rw [show base [] B1' B0'=⟨B1',none⟩::B0' from rfl]
   unfold EndP at hend
   cases hbv:tot.r with
   | ok st2 rows2 =>
    rw [hbv] at hend
    obtain ⟨rfl,h'⟩:=hend
    have hl2:B0'.length=B0.length:=h'.l.trans hL
    obtain ⟨xv,hmm,_⟩:=h'.m
    have hv:=h'.v
    have hj:=h'.j
    rw [List.nil_append,List.nil_append] at hj
    unfold Mc.cells machU Mc.uv at hmm
    rw [hL, ← hl2] at hmm hv
    rw [← hl2] at f12 f13 f14 ⊢
    have h23:∀ w,bget (bset B1' 2 w) 3=some [.int .i64 0]:=fun w=>by rw [bget_ne (by decide)]; exact h'.p.2
    simp only [go_sem,simprocAttr,f12,f13,f14,hv,hmm,h'.p.1,h23,setAt_at0]
    refine ⟨_,_,⟨rfl,rfl⟩,rfl,h'.c0,?_,?_,hj,fun hd=>(h'.r hd).1⟩
    ·rw [bget_ne (by decide)]; exact bget_set h'.p.1 rfl
    ·exact bget_set (h23 _) rfl
   | pan e' =>
    rw [hbv] at hend
    obtain ⟨rfl,hp1,hl1,hc1⟩:=hend
    simp only [go_sem,simprocAttr,f12,f13]
    exact ⟨_,_,⟨rfl,rfl⟩,hl1.trans hL,hc1,hp1⟩)) rfl (by decide)
 simp only at q2
 obtain ⟨g12,g13,B1',B0',rfl,hl',hc',q3⟩:=q2
 have hm:theEnv.meth=theMeth:=rfl
 rw [hm] at k2
 unfold ExecP
 cases hbv:tot.r with
 | ok st rows' =>
  rw [hbv] at q3
  obtain ⟨rfl,h2,h3,h4,h5⟩:=q3
  refine ⟨.ret (.tup [.int .i64 st, .int .i64 0]),B0',⟨max K K2+1,fun j hj=>?_⟩,rfl,hl',hc',h4,h5⟩
  obtain ⟨j,rfl⟩:∃ m,j=m+1:=⟨j - 1,by omega⟩
  simp only [callN,callBody,hx,guardH2,List.length_cons,List.length_nil,if_true]
  rw [hrun j (by omega)]
  simp only [k2 j (by omega)]
  rw [f12,f13,g12,g13]
  have o2:oneBox ⟨B1',none⟩ 2=some (.int .i64 st):=by simp only [oneBox,dz_was h2]; rfl
  have o3:oneBox ⟨B1',none⟩ 3=some (.int .i64 0):=by simp only [oneBox,dz_was h3]; rfl
  simp only [and_self,if_true,o2,o3,Option.bind_some,Option.map_some]
 | pan e' =>
  rw [hbv] at q3
  obtain ⟨rfl,h2,h3⟩:=q3
  refine ⟨.ret (.tup [.int .i64 0, .int .i64 e']),B0',⟨max K K2+1,fun j hj=>?_⟩,rfl,hl',hc'⟩
  obtain ⟨j,rfl⟩:∃ m,j=m+1:=⟨j - 1,by omega⟩
  simp only [callN,callBody,hx,guardH2,List.length_cons,List.length_nil,if_true]
  rw [hrun j (by omega)]
  simp only [k2 j (by omega),ended]
  rw [f12,f13,g12,g13]
  have o2:oneBox ⟨B1',none⟩ 2=some (.int .i64 0):=by simp only [oneBox,dz_was h2]; rfl
  have o3:oneBox ⟨B1',none⟩ 3=some (.int .i64 0):=by simp only [oneBox,dz_was h3]; rfl
  simp [o2,o3]
end Y
end Wp
end AM
end Go.Proofs.Ytimfbnojmdnlnaa
end
section
namespace Go.Proofs.Ytimfbnojmdnlnaa
namespace AM
namespace Wp
namespace Y
variable {U:St} {T:Lev} {B1:List (List V)} {B0:St} {L:Nat} {c:Mc} {x:List Int} {st:Int} {rows:List (List Int)} {ins:List Ins} {evs:List Ev}
def OutB (e n oi fi:Nat) (B:List (List V)) (ov:V) (rs:List (List V)):Prop:=(rs=[]∧ov=.slice .nil [])∨∃ bi:Nat,bi≠oi∧bi≠fi∧ov=.bsl 0 bi 0 rs.length n e∧bget B bi=some rs.flatten
def outA (B:List (List V)) (ov:V) (v:List V):List (List V):=badd (match ov with | .bsl _ bi _ _ _ _=>bset B bi dead | _=>B) v
theorem base_zero {B:List (List V)}:T::base U B1 [⟨B,none⟩]=((T::U)++[⟨B1,none⟩])++[⟨B,none⟩]:=by simp [base]
theorem lenAt_zero {B:List (List V)}:lenAt (T::base U B1 [⟨B,none⟩]) 0=blen B:=by
 rw [base_zero,lenAt_app (by simp)]; rfl
theorem addBox_zero {B:List (List V)} {v:List V}:addBox (T::base U B1 [⟨B,none⟩]) 0 v=T::base U B1 [⟨badd B v,none⟩]:=by
 rw [base_zero,addBox_app (by simp),base_zero]; rfl
@[go_sem] theorem getBox_z0 {B:List (List V)} {i:Nat}:getBox (T::base U B1 [⟨B,none⟩]) 0 i=bget B i:=by rw [getBox_up0 (by simp)]; rfl
@[go_sem] theorem setBox_z0 {B:List (List V)} {i:Nat} {v:List V}:setBox (T::base U B1 [⟨B,none⟩]) 0 i v=T::base U B1 [⟨bset B i v,none⟩]:=by rw [setBox_up0 (by simp)]; rfl
@[go_sem] theorem getBox_z1 {B:List (List V)} {i:Nat}:getBox (T::base U B1 [⟨B,none⟩]) 1 i=bget B1 i:=getBox_up1 rfl
theorem OutB.cp {e n oi fi:Nat} {B:List (List V)} {ov:V} {rs:List (List V)} (h:OutB e n oi fi B ov rs):strip ov=ov∧tame ov=true∧isOwn ov=false∧lenO false ov=some (.int .i64 rs.length)∧calmC [ov]=true:=by
 rcases h with ⟨rfl,rfl⟩ | ⟨bi,_,_,rfl,_⟩<;>exact ⟨rfl,rfl,rfl,rfl,rfl⟩
theorem calm_outA {B:List (List V)} {ov:V} {v:List V} (h:calmB B=true) (hv:calmC v=true):calmB (outA B ov v)=true:=by
 have hd:calmC dead=true:=rfl
 have h1:calmB (match ov with | .bsl _ bi _ _ _ _=>bset B bi dead | _=>B)=true:=by
  split
  ·exact calmB_set h hd
  ·exact h
 unfold outA badd
 rw [calmB_app,h1,calmB_cons,hv]; rfl
theorem outA_get {e n oi fi:Nat} {B:List (List V)} {ov:V} {rs:List (List V)} {i:Nat} {v w:List V} (h:OutB e n oi fi B ov rs) (hi:i=oi∨i=fi) (hg:bget B i=some w):bget (outA B ov v) i=some w:=by
 unfold outA
 refine bget_badd ?_
 rcases h with ⟨_,rfl⟩ | ⟨bi,h1,h2,rfl,_⟩
 ·exact hg
 ·simp only
  rw [bget_ne,hg]
  rcases hi with rfl | rfl
  ·exact Ne.symm h1
  ·exact Ne.symm h2
theorem outA_new {B:List (List V)} {ov:V} {v:List V} (hv:dz (some v)=some v):bget (outA B ov v) (blen B)=some v:=by
 have hl:∀ {C:List (List V)},C.length=B.length→bget (badd C v) (blen B)=some v:=by
  intro C h
  simp only [bget,badd,blen]
  rw [List.getElem?_append_right (by omega),h,Nat.sub_self]
  exact hv
 unfold outA
 cases ov<;>first | exact hl rfl | (exact hl (by simp [bset]))
section
variable {E:Env} {ks:List KI} {F:Fr} {S:St} {Q:Ex→Fr→St→Prop} {bs:List Blk} {os all:List AOper} {d:Option Nat} {A B:List (List V)}
theorem CallwF_sp {f:Nat} {xs:List Opd} {ar:List V} {v:V} (h:Sp E f ar v) (hm:(xs.map fun x=>evO F x).mapM (frz S 0 4)=some ar) (hf:flatW v=true) :
  Wk E (.f all (⟨d, .callw f xs,none⟩::os) bs) ks F S Q=Wk E (.f all os bs) ks (putO F d v) S Q:=by
 show callWK E f ((xs.map fun x=>evO F x).mapM (frz S 0 4)) (fun v=>Wk E (.f all os bs) ks (putO F d v) S Q)=_
 rw [hm]
 simp only [callWK,h.a,true_and]
 rw [(CallIs.q (h.s []))]
 simp only [hf,true_and]
theorem appr_out {e n b dd t u oi fi:Nat} {k:SK} {r:List V} {ov:V} {rs:List (List V)} (hn:0 < n) (ho:OutB e n oi fi B ov rs) (ht:F t=ov) (hu:F u=.slice k [r]) (hr:r.length=n) (h6:F 6=.ptr 0 oi 0) (hb:(rs.length+1)*b≤140737488355328) (hb1:b≤140737488355328) (hl:rs.length+1≤140737488355328) (hrl:lowL 1 r=true) (hro:noOwn r=true) (hrs:∀ q∈rs,q.length=n) (hos:noOwn rs.flatten=true) :
  Wk E (.s (.seq ⟨some dd, .appr e n b (.t t) (.t u) (some 6),none⟩::bs)) ks F (⟨A,none⟩::base U B1 [⟨B,none⟩]) Q=Wk E (.s bs) ks (putO F (some dd) (.bsl 0 (blen B) 0 (rs.length+1) n e)) (⟨A,none⟩::base U B1 [⟨outA B ov (rs++[r]).flatten,none⟩]) Q:=by
 have hlv:lvOf F (⟨A,none⟩::base U B1 [⟨B,none⟩]) (some 6)=some 0:=by
  simp only [lvOf,h6]
  rw [if_pos (by simp)]
 have hsrc:srcRows (⟨A,none⟩::base U B1 [⟨B,none⟩]) n (.slice k [r])=some [r]:=by
  simp [srcRows,allLen,hr]
 have hun:unown F (.t t)=F:=by
  have h1:=ho.cp.1
  funext i
  simp only [unown,put,ht,h1]
  split
  ·rename_i h; subst h; exact ht.symm
  ·rfl
 show apprK e n b (F t) (srcRows (⟨A,none⟩::base U B1 [⟨B,none⟩]) n (F u)) (lvOf F (⟨A,none⟩::base U B1 [⟨B,none⟩]) (some 6)) (some dd) F (unown F (.t t)) (⟨A,none⟩::base U B1 [⟨B,none⟩]) (fun F S=>Wk E (.s bs) ks F S Q)=_
 rw [hun,ht,hu,hsrc,hlv]
 rcases ho with ⟨rfl,rfl⟩ | ⟨bi,_,_,rfl,hg⟩
 ·apply propext
  constructor
  ·rintro ⟨_,_,_,h⟩
   rw [lenAt_zero,addBox_zero] at h
   simpa [outA] using h
  ·intro h
   refine ⟨⟨rfl,hn,by simp; omega,by simp⟩,by simpa using hrl,by simpa using hro,?_⟩
   rw [lenAt_zero,addBox_zero]
   simpa [outA] using h
 ·have hfl:=length_flat (n:=n) hrs
  have h4:((getBox (⟨A,none⟩::base U B1 [⟨B,none⟩]) 0 bi).bind fun cs=>cutL cs 0 (rs.length*n))=some rs.flatten:=by
   rw [getBox_z0,hg,Option.bind_some, ← hfl]
   simp only [cutL,Nat.zero_add,Nat.le_refl,if_true,List.drop_zero,List.take_length]
  have h5:rs.flatten++[r].flatten=(rs++[r]).flatten:=by simp
  simp only [apprK,h4,h5]
  rw [setBox_z0,lenAt_zero,addBox_zero]
  apply propext
  constructor
  ·rintro ⟨_,_,_,_,h⟩
   exact h
  ·intro h
   exact ⟨⟨trivial,trivial,trivial,hn,by simpa using hb,by simpa using hl⟩,hos,by simpa using hrl,by simpa using hro,h⟩
end
theorem cut_x {S:St} {xv:V} {np:Nat} (hx:XS L S xv x) (hnp:np≤x.length):∃ (cv:V) (b:Bool),(∀ kk:IntKind,cutO 1 xv (some (.int kk (np:Int))) none=some cv)∧tame cv=true∧(b=true→x.drop np=[])∧∀ T,frz (T::S) 0 4 cv=some (.slice (nk b) ((x.drop np).map encI)):=by
 rcases hx with ⟨rfl,rfl⟩ | ⟨xi,rest,rfl,hb⟩
 ·obtain rfl:np=0:=by simpa using hnp
  exact ⟨.slice .nil [],true,fun kk=>by simp [cutO,ondH,ondO,natIn,allLen,cutKind],rfl,fun _=>by simp,fun T=>rfl⟩
 ·have hc:∀ kk:IntKind,cutO 1 (.bsl L xi 0 x.length 1 3) (some (.int kk (np:Int))) none=some (if np=0∨np < x.length then .bsl L xi np (x.length - np) 1 3 else .slice .shut []):=fun kk=>by
   simp only [cutO,ondH,ondO,natIn,if_true,Option.bind_some]
   rw [if_pos (by omega)]
   simp
  by_cases h:np=0∨np < x.length
  ·refine ⟨_,false,fun kk=>by rw [hc,if_pos h],rfl,(fun h=>by cases h),fun T=>?_⟩
   have h1:cutL (ints (x++rest)) np ((x.length - np)*1)=some (ints (x.drop np)):=by
    unfold cutL
    rw [if_pos (by rw [ints_len]; simp; omega)]
    simp only [ints, ← List.map_drop, ← List.map_take,Nat.mul_one]
    rw [List.drop_append_of_le_length hnp,List.take_append_of_le_length (by simp),List.take_of_length_le (by simp)]
   have h2:(ints (x.drop np)).mapM (frz (T::S) 0 3)=some (ints (x.drop np)):=mapM_still (k:=2) fun c hc=>by
    simp only [ints,List.mem_map] at hc
    obtain ⟨y,_,rfl⟩:=hc
    exact ⟨rfl,rfl,rfl⟩
   have h3:lowL 0 (ints (x.drop np))=true:=lowL_still fun c hc=>by
    simp only [ints,List.mem_map] at hc
    obtain ⟨y,_,rfl⟩:=hc
    exact ⟨rfl,rfl,rfl⟩
   have h4:=chunk_one (ints (x.drop np))
   rw [ints_len,List.length_drop] at h4
   rw [frz,if_neg (by omega)]
   split
   ·rename_i h0
    rw [List.drop_eq_nil_of_le (by omega)]; rfl
   ·rw [getBox_up hb,Option.bind_some,h1,Option.bind_some,h2,Option.bind_some,if_pos ⟨by decide,h3⟩,h4]
    simp only [ints,List.map_drop,List.map_map,nk]
    rfl
  ·refine ⟨_,false,fun kk=>by rw [hc,if_neg h],rfl,(fun h=>by cases h),fun T=>?_⟩
   rw [List.drop_eq_nil_of_le (by omega)]; rfl
theorem flatW_clone (b:Bool) (r:List Int):flatW (cloneV3 b (r.map encI))=true:=by
 cases b
 ·exact flats_ints r
 ·rfl
theorem inst_run {S:St} {mi np:Nat} {sh mv xv uv:V} {dry:Bool} (stm:Int) (hm:getBox S L mi=some (machU sh mv np xv st dry uv)) (hx:XS L S xv x) (hnp:np≤x.length) (hxl:x.length≤1000) :
  ∃ b,CallIs theEnv (.fn 60) [.ptr L mi 0, .int .i64 stm] S (.ret (.agg [.int .i64 stm, .slice (nk b) ((x.drop np).map encI)])) S:=by
 obtain ⟨cv,b,h1,h3,h4,h2⟩:=cut_x hx hnp
 have e1:∀ r,cutV [.int .i64 stm, .slice .shut r] 0 2 true=some (.agg [.int .i64 stm, .slice .shut r]):=fun r=>rfl
 have e2:∀ r,cutV [.int .i64 stm, .slice .nil r] 0 2 true=some (.agg [.int .i64 stm, .slice .nil r]):=fun r=>rfl
 refine ⟨b,CallIs.fn rfl rfl rfl ?_⟩
 have g1:=fun T=>getBox_up (T:=T) hm
 have hs:=hx.st
 have ht:=hx.tm
 have hcl:=clone3_ok b (x.drop np) (by simp; omega)
 simp only [a60,c60,go_sem,simprocAttr,g1,machU,hs,ht,h1,Wk_enter]
 rw [CallwF_sp hcl (by simp only [go_sem,simprocAttr,List.mapM_cons,List.mapM_nil,h2]; rfl) (flatW_clone b _)]
 cases b with
 | false=>simp only [go_sem,simprocAttr,cloneV3,hs,ht,h3,e1]
 | true=>rw [h4 rfl]; simp only [go_sem,simprocAttr,cloneV3,hs,ht,h3,e2,List.map_nil]
end Y
end Wp
end AM
end Go.Proofs.Ytimfbnojmdnlnaa
end
section
namespace Go.Proofs.Ytimfbnojmdnlnaa
namespace AM
namespace Wp
namespace Y
variable {U:St} {T:Lev} {B1:List (List V)} {B0:St} {L:Nat} {c:Mc} {x:List Int} {st:Int} {rows:List (List Int)} {ins:List Ins} {evs:List Ev}
structure InP where
 stm:Int
 b:Bool
 x:List Int
def InP.toI (m:InP):Ins:=⟨m.stm,m.x⟩
def encInP (m:InP):List V:=[.int .i64 m.stm, .slice (nk m.b) (m.x.map encI)]
theorem noOwn_InP (m:InP):noOwn (encInP m)=true:=by cases m with | mk s b x=>cases b<;>rfl
theorem noOwn_app {a b:List V} (ha:noOwn a=true) (hb:noOwn b=true):noOwn (a++b)=true:=by
 unfold noOwn at *
 rw [List.all_append,ha,hb]; rfl
theorem noOwn_InPs:∀ ms:List InP,noOwn (ms.map encInP).flatten=true
 | []=>rfl
 | m::ms=>by
  rw [List.map_cons,List.flatten_cons]
  exact noOwn_app (noOwn_InP m) (noOwn_InPs ms)
theorem goodL_InP (m:InP):goodL (encInP m)=true:=by simp only [encInP,goodL,good,goodR_map fun y _=>good_I y,Bool.and_self]
theorem goodL_InPs:∀ ms:List InP,goodL (ms.map encInP).flatten=true
 | []=>rfl
 | m::ms=>by
  rw [List.map_cons,List.flatten_cons,goodL_app,goodL_InP,goodL_InPs ms]; rfl
theorem dz_InPs (ms:List InP):dz (some (ms.map encInP).flatten)=some (ms.map encInP).flatten:=dz_def fun c hc=>by
 obtain ⟨l,hl,h⟩:=List.mem_flatten.1 hc
 obtain ⟨m,_,rfl⟩:=List.mem_map.1 hl
 simp only [encInP,List.mem_cons,List.not_mem_nil,or_false] at h
 rcases h with rfl | rfl<;>rfl
theorem ins1_run {B:List (List V)} {mi np:Nat} {sh mv xv uv ov:V} {dry:Bool} {oi fi:Nat} {ms:List InP} {fl:Bool} (stm p1 p2 p3 p4:Int) (hm:bget B1 mi=some (machU sh mv np xv st dry uv)) (hx:XB 1 B1 xv x) (hnp:np≤x.length) (hxl:x.length≤1000) (hU:calmS U=true) (hc1:calmB B1=true) (hcb:calmB B=true)
  (ho:OutB 77 2 oi fi B ov (ms.map encInP)) (hoi:bget B oi=some [ov]) (hfi:bget B fi=some [.bool fl]) (hne:oi≠fi) (hlen:ms.length≤4096) :
  CallQ theEnv (.fn 62) [.ptr 1 mi 0, .int .i64 stm, .int .i64 p1, .int .i64 p2, .int .i64 p3, .int .i64 p4, .ptr 0 oi 0, .ptr 0 fi 0] (base U B1 [⟨B,none⟩]) (fun o S'=>o=.ret (.tup [])∧∃ (B':List (List V)) (ov':V) (ms':List InP),S'=base U B1 [⟨B',none⟩]∧calmB B'=true∧bget B' oi=some [ov'] ∧
   OutB 77 2 oi fi B' ov' (ms'.map encInP)∧bget B' fi=some [.bool (fl||decide (ms.length=4096))]∧ms'.map InP.toI=if ms.length=4096 then ms.map InP.toI else ms.map InP.toI++[⟨stm,x.drop np⟩]):=by
 obtain ⟨o1,o2,o3,o4,o5⟩:=ho.cp
 have hxs:XS 1 (⟨[],none⟩::base U B1 [⟨B,none⟩]) xv x:=hx.s (U:=⟨[],none⟩::U) (B0:=[⟨B,none⟩]) rfl
 obtain ⟨bx,hin⟩:=inst_run (S:=⟨[],none⟩::base U B1 [⟨B,none⟩]) stm (by rw [getBox_z1]; exact hm) hxs hnp hxl
 have hcalm:calmS (⟨[],none⟩::base U B1 [⟨B,none⟩])=true:=by
  have:calmB ([]:List (List V))=true:=rfl
  have h0:calmS [⟨B,none⟩]=true:=by simp [calmS,hcb]
  have h2:=calm_base (U:=⟨[],none⟩::U) (B1:=B1) (B0:=[⟨B,none⟩])
  rw [base_up] at h2
  rw [h2,h0,hc1]
  simp only [calmS] at hU ⊢
  simp [hU,this]
 refine CallQ.fn rfl rfl rfl ?_
 simp only [a62,c62,go_sem,simprocAttr,hoi,o1,o2,o4,List.length_map]
 rw [Run_if]
 simp only [go_sem,simprocAttr]
 split
 ·rename_i h1
  have h1':ms.length=4096:=by omega
  simp only [go_sem,simprocAttr,hfi,setAt_at0]
  refine ⟨bset B fi [.bool true],ov,ms,rfl,calmB_set hcb rfl,by rw [bget_ne hne]; exact hoi,?_,by rw [bget_set hfi rfl,h1']; simp,by rw [if_pos h1']⟩
  rcases ho with h | ⟨bi,b1,b2,b3,b4⟩
  ·exact .inl h
  ·exact .inr ⟨bi,b1,b2,b3,by rw [bget_ne b2]; exact b4⟩
 ·rename_i h1
  have h1':¬ ms.length=4096:=by omega
  simp only [go_sem,simprocAttr,hoi,o1,o2,o3,Wk_enter]
  rw [CallF hin low0_ptr rfl hcalm rfl]
  simp only [go_sem,simprocAttr,o1,o2,o3]
  rw [appr_out (ov:=ov) (rs:=ms.map encInP) (r:=encInP (InP.mk stm bx (x.drop np))) (k:=.own 77) (by decide) ho sx (by simp only [go_sem,simprocAttr]; rfl) rfl sx (by simp; omega) (by decide) (by simp; omega) rfl (noOwn_InP _) (fun q hq=>by
   obtain ⟨m,_,rfl⟩:=List.mem_map.1 hq; rfl) (noOwn_InPs ms)]
  have e1:(ms.map encInP++[encInP (InP.mk stm bx (x.drop np))]).flatten=((ms++[InP.mk stm bx (x.drop np)]).map encInP).flatten:=by simp
  rw [e1]
  have hoA:=outA_get (v:=((ms++[InP.mk stm bx (x.drop np)]).map encInP).flatten) ho (.inl rfl) hoi
  have hfA:=outA_get (v:=((ms++[InP.mk stm bx (x.drop np)]).map encInP).flatten) ho (.inr rfl) hfi
  have hnA:=outA_new (B:=B) (ov:=ov) (dz_InPs (ms++[InP.mk stm bx (x.drop np)]))
  have hcA:calmB (outA B ov ((ms++[InP.mk stm bx (x.drop np)]).map encInP).flatten)=true:=calm_outA hcb (by simp only [calmC,goodL_InPs,noOwn_InPs,Bool.and_self])
  have hbo:blen B≠oi:=by have:=bget_lt hoi; unfold blen; omega
  have hbf:blen B≠fi:=by have:=bget_lt hfi; unfold blen; omega
  simp only [go_sem,simprocAttr,hoA,setAt_at0,List.length_map]
  refine ⟨_, .bsl 0 (blen B) 0 (ms.length+1) 2 77,ms++[InP.mk stm bx (x.drop np)],rfl,calmB_set hcA rfl,bget_set hoA rfl, .inr ⟨blen B,hbo,hbf,by simp,by rw [bget_ne hbo]; exact hnA⟩,by rw [bget_ne (Ne.symm hne),hfA]; simp [h1'],by rw [if_neg h1']; simp [InP.toI]⟩
end Y
end Wp
end AM
end Go.Proofs.Ytimfbnojmdnlnaa
end
