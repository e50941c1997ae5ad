/- Check, whole; Statements, as the reference checks them; The reference's check, whole; both checks agree; The arrays of a program with parameters: their sizes and cells, both sides, in plain words. -/
import Derived.Test.YtimfbnojmdnlnaaKM16
set_option linter.all false
set_option maxRecDepth 100000
section
namespace Go.Proofs.Ytimfbnojmdnlnaa
namespace AM
namespace Wp
def hPar:List ByteArray→List ByteArray→Bool
 | _,[]=>true
 | acc,s::l=>vName s&&isNew acc s&&hPar (acc++[s]) l
def hArr (n:Int):List ByteArray→List Arr→Bool
 | _,[]=>true
 | acc,a::l=>(vName a.name&&isNew acc a.name&&decide ((a.sizes.length:Int)≤3))&&a.sizes.all (vOverL n)&&hArr n (acc++[a.name]) l
def vHead (p:Prg):Bool:=(decide ((p.params.length:Int)≤2)&&decide ((p.arrays.length:Int)≤8))&&hPar [] p.params&&hArr p.params.length p.params p.arrays
theorem hPar_app:∀ {xs acc ys:List ByteArray},hPar acc (xs++ys)=(hPar acc xs&&hPar (acc++xs) ys)
 | [],acc,ys=>by simp [hPar]
 | x::xs,acc,ys=>by
  simp only [List.cons_append,hPar,hPar_app (xs:=xs),Bool.and_assoc,List.append_assoc]
  rfl
theorem hArr_app {n:Int}:∀ {xs ys:List Arr} {acc:List ByteArray},hArr n acc (xs++ys)=(hArr n acc xs&&hArr n (acc++xs.map (·.name)) ys)
 | [],ys,acc=>by simp [hArr]
 | x::xs,ys,acc=>by
  simp only [List.cons_append,hArr,hArr_app (xs:=xs),Bool.and_assoc,List.append_assoc,List.map_cons]
  rfl
theorem cut_at {α:Type} {l:List α} {k:Nat} {x:α} (h:l[k]?=some x):l=l.take k++(x::l.drop (k+1)):=by
 have h1:=(List.getElem?_eq_some_iff.1 h).2
 rw [← h1,List.getElem_cons_drop,List.take_append_drop]
theorem cat_snoc {l:List ByteArray} {s:ByteArray}:l.map encS++[[.str s]]=(l++[s]).map encS:=by simp [encS]
theorem le_lim {n:Nat} (h:n≤1000000):n≤LIM:=Nat.le_trans h (by decide)
theorem head_ok {p:Prg} {st:Int} {S:St} {l ci:Nat} (hp:OkPrg p) (hb:getBox S l ci=some (encChk p st)):CallIs theEnv (.fn 30) [.ptr l ci 0] S (outIf (vHead p)) S:=by
 refine CallIs.fn rfl rfl rfl ?_
 have g1:=fun T=>getBox_up (T:=T) hb
 simp only [a30,c30,go_sem,simprocAttr,g1,(need_ok _).call]
 split
 ·rename_i hlen
  refine Run_range p.params.length [0,30] [2] (fun k vs S'=>vs=[grown 9 ((p.params.take k).map encS)]∧S'=⟨[],none⟩::S∧hPar [] (p.params.take k)=true) hp.pl sx sx rfl rfl rfl rfl sx ⟨by simp only [go_sem,simprocAttr,List.take_zero,grown_nil],rfl,rfl⟩ ?_ ?_
  ·rintro k F _ hk ⟨hv,rfl,hok⟩ hi hkept
   simp only [go_sem,simprocAttr] at hkept hv
   obtain ⟨s,hsk⟩:∃ s,p.params[k]?=some s:=⟨p.params[k],List.getElem?_eq_getElem hk⟩
   have hkl:(p.params.take k).length=k:=by simp; omega
   have happ:=appO_grown (e:=9) (n:=1) (b:=16) (k:=.own 9) (xs:=(p.params.take k).map encS) (ys:=[[.str s]]) rfl (by simp; omega) (by simp; omega)
   simp only [go_sem,simprocAttr,hkept,hi,hv,iaO_map hsk,(named_ok _ (p.params.take k) s (le_lim (by omega))).call,(need_ok _).call,happ,cat_snoc,take_snoc hsk,hPar_app,hok]
   have hfail:(vName s&&isNew (p.params.take k) s)=false→vHead p=false:=fun h=>by
    have:hPar [] p.params=false:=by
     rw [cut_at hsk,hPar_app,hok,Bool.true_and,List.nil_append,hPar]
     rw [h]; rfl
    simp only [vHead,this,Bool.and_false,Bool.false_and]
   simp only [hPar,Bool.and_true]
   grind
  ·rintro F _ ⟨hv,rfl,hok⟩ hkept
   simp only [go_sem,simprocAttr] at hkept hv
   rw [List.take_length] at hok hv
   simp only [go_sem,simprocAttr,hkept,hv,g1]
   refine Run_range p.arrays.length [0,49] [2] (fun k vs S'=>vs=[grown 9 ((p.params++(p.arrays.take k).map (·.name)).map encS)]∧(∃ B,S'=⟨B,none⟩::S)∧hArr p.params.length p.params (p.arrays.take k)=true) hp.al sx sx rfl rfl rfl rfl (by simp only [go_sem,simprocAttr,hkept]) ⟨by simp only [go_sem,simprocAttr,List.take_zero,hv],⟨_,rfl⟩,rfl⟩ ?_ ?_
   ·rintro k F' _ hk ⟨hv2,⟨B,rfl⟩,hok2⟩ hi2 hkept2
    simp only [go_sem,simprocAttr,hkept] at hkept2 hv2
    obtain ⟨a,hak⟩:∃ a,p.arrays[k]?=some a:=⟨p.arrays[k],List.getElem?_eq_getElem hk⟩
    have ham:=List.mem_of_getElem? hak
    have hao:=hp.as a ham
    have hkl:(p.arrays.take k).length=k:=by simp; omega
    have hkl2:(p.params++(p.arrays.take k).map (·.name)).length≤10:=by simp; omega
    have happ:=appO_grown (e:=9) (n:=1) (b:=16) (k:=.own 9) (xs:=(p.params++(p.arrays.take k).map (·.name)).map encS) (ys:=[[.str a.name]]) rfl (by rw [List.length_map]; simp only [List.length_singleton]; omega) (by rw [List.length_map]; simp only [List.length_singleton]; omega)
    simp only [go_sem,simprocAttr,hkept2,hi2,hv2,iaO_map hak,(named_ok _ (p.params++(p.arrays.take k).map (·.name)) a.name (le_lim (by omega))).call,(need_ok _).call,happ,cat_snoc]
    have hname:∀ b:Bool,((vName a.name&&isNew (p.params++(p.arrays.take k).map (·.name)) a.name&&decide ((a.sizes.length:Int)≤3))&&b)=false→a.sizes.all (vOverL p.params.length)=b→vHead p=false:=fun b h hb=>by
     have:hArr p.params.length p.params p.arrays=false:=by
      rw [cut_at hak,hArr_app,hok2,Bool.true_and,hArr,hb,h]; rfl
     simp only [vHead,this,Bool.and_false]
    split
    ·rename_i hn
     refine Run_all a.sizes (vOverL p.params.length) (fun S'=>∃ B,S'=⟨B,none⟩::S) [0,2,49,51,72] hao.l (by simp only [go_sem,simprocAttr,hkept2,hi2]) (by simp only [go_sem,simprocAttr,hkept2,hi2]) rfl rfl rfl (by simp only [go_sem,simprocAttr,hkept2,hi2]) ⟨_,rfl⟩ ?_ ?_
     ·rintro k F2 _ x hx hm ⟨B,rfl⟩ hi3 hkept3 hall
      simp only [go_sem,simprocAttr,hkept2,hi2] at hkept3 hall
      simp only [go_sem,simprocAttr,hkept3,hi3,iaO_map hx,g1,(over_ok x _ (hao.s x hm)).call,(need_ok _).call]
      split
      ·assumption
      ·rename_i hx2
       intro _ _
       exact hname false (Bool.and_false _) (hall (by simpa using hx2))
     ·rintro F2 _ hall ⟨B2,rfl⟩ hkept3
      simp only [go_sem,simprocAttr,hkept2] at hkept3
      simp only [go_sem,simprocAttr,hkept3]
      rw [take_snoc hak]
      refine ⟨by rw [List.map_append (l₂:=[a])]; rfl,?_⟩
      rw [hArr_app,hok2,Bool.true_and,hArr,hArr,hall]
      simp only [hn.1.1,hn.1.2,hn.2,decide_true,Bool.and_true]
    ·rename_i hn
     intro _
     refine hname _ ?_ rfl
     have:(vName a.name&&isNew (p.params++(p.arrays.take k).map (·.name)) a.name&&decide ((a.sizes.length:Int)≤3))=false:=by
      rw [← Bool.not_eq_true]
      simpa only [Bool.and_eq_true,decide_eq_true_eq] using hn
     rw [this,Bool.false_and]
   ·rintro F' _ ⟨hv2,⟨B,rfl⟩,hok2⟩ hkept2
    rw [List.take_length] at hok2
    simp only [go_sem,simprocAttr,vHead,hok,hok2]
    exact hlen
 ·simp only [vHead]
  grind
def flat:ACode→Bool
 | .seq a b=>flat a&&flat b
 | .cond _ a b=>flat a&&flat b
 | .blk _ a=>flat a
 | .loop _=>false
 | .rng ..=>false
 | _=>true
def depth:ACode→Nat
 | .seq a b=>max (depth a) (depth b)+1
 | .cond _ a b=>max (depth a) (depth b)+1
 | .blk _ a=>depth a+1
 | _=>1
theorem codeN_flat {meth:Nat→String→Option Nat} {cE:CE}:∀ {c:ACode} {k k':Nat} {F:Fr} {S:St},flat c=true→depth c≤k→depth c≤k'→codeN meth cE k c F S=codeN meth cE k' c F S:=by
 intro c
 induction c with
 | nop=>intro k k' F S _ h h'; obtain ⟨k,rfl⟩:∃ m,k=m+1:=⟨k - 1,by simp only [depth] at h; omega⟩; obtain ⟨k',rfl⟩:∃ m,k'=m+1:=⟨k' - 1,by simp only [depth] at h'; omega⟩; rfl
 | reg bs=>intro k k' F S _ h h'; obtain ⟨k,rfl⟩:∃ m,k=m+1:=⟨k - 1,by simp only [depth] at h; omega⟩; obtain ⟨k',rfl⟩:∃ m,k'=m+1:=⟨k' - 1,by simp only [depth] at h'; omega⟩; rfl
 | exit id=>intro k k' F S _ h h'; obtain ⟨k,rfl⟩:∃ m,k=m+1:=⟨k - 1,by simp only [depth] at h; omega⟩; obtain ⟨k',rfl⟩:∃ m,k'=m+1:=⟨k' - 1,by simp only [depth] at h'; omega⟩; rfl
 | ret=>intro k k' F S _ h h'; obtain ⟨k,rfl⟩:∃ m,k=m+1:=⟨k - 1,by simp only [depth] at h; omega⟩; obtain ⟨k',rfl⟩:∃ m,k'=m+1:=⟨k' - 1,by simp only [depth] at h'; omega⟩; rfl
 | seq a b iha ihb =>
  intro k k' F S hf h h'
  simp only [flat,Bool.and_eq_true] at hf
  simp only [depth] at h h'
  obtain ⟨k,rfl⟩:∃ m,k=m+1:=⟨k - 1,by omega⟩
  obtain ⟨k',rfl⟩:∃ m,k'=m+1:=⟨k' - 1,by omega⟩
  simp only [codeN]
  rw [iha hf.1 (show depth a≤k by omega) (show depth a≤k' by omega)]
  split
  ·exact ihb hf.2 (by omega) (by omega)
  ·rfl
 | cond c a b iha ihb =>
  intro k k' F S hf h h'
  simp only [flat,Bool.and_eq_true] at hf
  simp only [depth] at h h'
  obtain ⟨k,rfl⟩:∃ m,k=m+1:=⟨k - 1,by omega⟩
  obtain ⟨k',rfl⟩:∃ m,k'=m+1:=⟨k' - 1,by omega⟩
  simp only [codeN]
  rw [iha hf.1 (show depth a≤k by omega) (show depth a≤k' by omega),ihb hf.2 (show depth b≤k by omega) (show depth b≤k' by omega)]
 | blk id a iha =>
  intro k k' F S hf h h'
  simp only [flat] at hf
  simp only [depth] at h h'
  obtain ⟨k,rfl⟩:∃ m,k=m+1:=⟨k - 1,by omega⟩
  obtain ⟨k',rfl⟩:∃ m,k'=m+1:=⟨k' - 1,by omega⟩
  simp only [codeN]
  rw [iha hf (show depth a≤k by omega) (show depth a≤k' by omega)]
 | loop a=>intro k k' F S hf; cases hf
 | rng x ps asg body=>intro k k' F S hf; cases hf
theorem EvQ_flat {E:Env} {c:ACode} {F:Fr} {S:St} {Q:Ex→Fr→St→Prop} {n:Nat} (h:EvQ E c F S Q) (hf:flat c=true) (hd:depth c≤n):∃ r,(∃ K, ∀ j,K≤j→codeN E.meth (callN E j) n c F S=some r)∧Q r.1 r.2.1 r.2.2:=by
 obtain ⟨r,⟨K,h1⟩,h2⟩:=h
 refine ⟨r,⟨K,fun j hj=>?_⟩,h2⟩
 rw [codeN_flat hf hd (show depth c≤max K n by omega),h1 j (max K n) hj (by omega)]
theorem chk_fold {p:Prg} {st:Int}:encPrg p++[.int .i64 st]=encChk p st:=rfl
@[go_sem] theorem strip_Chk {p:Prg} {st:Int}:(encChk p st).map strip=encChk p st:=by rw [encChk,List.map_append,strip_Prg]; rfl
@[go_sem] theorem low_Chk {p:Prg} {st:Int} {n:Nat}:lowL n (encChk p st)=true:=by cases p; simp [encChk,encPrg,lowL,low]
theorem strip_clone {b:Bool} {l:List ByteArray} (h:b=true→l=[]):strip (cloneV b (l.map encS))=.slice (nk b) (l.map encS):=by
 cases b with
 | true=>rw [h rfl]; rfl
 | false=>rfl
def chkPrg (p:Prg):Bool:=vHead p&&(chkBody p p.body p.params 0).1
theorem check_ok {p:Prg} (hp:OkPrg p):Sp theEnv 9 [.agg (encPrg p)] (.int .i64 (if chkPrg p=true then 0 else 1)):={
 a:=by simp only [go_sem,simprocAttr]
 l:=fun n=>by simp only [go_sem,simprocAttr]
 s:=by
  intro S
  have hx:theEnv.ext 9=some (guardH theMeth 1 pre9 post9 2 4 86):=rfl
  obtain ⟨⟨e1,F1,S1⟩,⟨K1,h1⟩,he1,hF1,hS1⟩:=EvQ_flat (n:=60) (EvQ_run (E:=theEnv) (c:=pre9) (F:=args0 [.agg (encPrg p)]) (S:=⟨[],none⟩::S) (Q:=fun e F S'=>e=.nrm∧F=put (put (args0 [.agg (encPrg p)]) 1 (.ptr S.length 0 0)) 2 (.ptr S.length 1 0)∧S'=⟨[encPrg p,[.int .i64 0]],none⟩::S) (by
   simp only [pre9,go_sem,simprocAttr])) rfl (by decide)
  simp only at he1 hF1 hS1
  subst he1 hF1 hS1
  obtain ⟨⟨e2,F2,S2⟩,⟨K2,h2⟩,hQ⟩:=EvQ_flat (n:=60) (EvQ_run (E:=theEnv) (c:=post9) (F:=put (put (put (args0 [.agg (encPrg p)]) 1 (.ptr S.length 0 0)) 2 (.ptr S.length 1 0)) 4 .undef) (S:=⟨[encPrg p,[.int .i64 0]],none⟩::S)
   (Q:=fun e F S'=>F 2=.ptr S.length 1 0∧(∃ B,S'=⟨encPrg p::[.int .i64 0]::B,none⟩::S)∧e=if chkPrg p=true then .ret else .pan stop) (by
   have hh:=head_ok (p:=p) (st:=0) (S:=⟨[encPrg p,[.int .i64 0],encChk p 0],none⟩::S) (l:=S.length) (ci:=2) hp sx
   simp only [post9,go_sem,simprocAttr,chk_fold,CallP hh]
   split
   ·rename_i hv
    have hlen:(p.params.length:Int)≤2:=by
     simp only [vHead,Bool.and_eq_true,decide_eq_true_eq] at hv
     exact hv.1.1.1
    have hb:=body_ok hp (show p.params.length≤1000 by omega) hp.bl (fun s hs=>stm_ok (l:=S.length) (ci:=2) hp (by omega) s (hp.bs s hs)) p.params p.pn p.bn 0 (⟨[encPrg p,[.int .i64 0],encChk p 0],none⟩::S) (by omega) hp.pz sx (by omega) (by omega)
    simp only [go_sem,simprocAttr] at hb
    simp only [go_sem,simprocAttr,(clone_ok p.pn p.params (by omega) hp.pz).call,strip_clone hp.pz,CallP hb,chkPrg,hv]
    split
    ·rename_i hc; simp only [go_sem,simprocAttr,hc]
    ·rename_i hc; simp only [go_sem,simprocAttr,hc]
   ·rename_i hv
    simp only [chkPrg,hv,go_sem,simprocAttr])) rfl (by decide)
  simp only at hQ
  obtain ⟨hF2,⟨B,rfl⟩,rfl⟩:=hQ
  refine ⟨max K1 K2+1,fun j hj=>?_⟩
  obtain ⟨j,rfl⟩:∃ m,j=m+1:=⟨j - 1,by omega⟩
  simp only [callN,callBody,hx,guardH,List.length_cons,List.length_nil,if_true]
  have e1:=h1 j (by omega)
  have e2:=h2 j (by omega)
  have hm:theEnv.meth=theMeth:=rfl
  rw [hm] at e1 e2
  rw [e1]
  simp only [e2]
  cases hc:chkPrg p<;>simp [put_hit,hF2,oneBox,low,strip,stop] }
end Wp
end AM
end Go.Proofs.Ytimfbnojmdnlnaa
end
section
namespace Go.Proofs.Ytimfbnojmdnlnaa
namespace AM
namespace Wp
def cAsgR (p:Prg) (names:List ByteArray) (s:Stm):Bool:=zLoop s&&zSet s.test&&decide ((s.body.length:Int)=0)&&decide ((s.els.length:Int)=0)&&vCell p names.length s.target&&decide ((nodesE s.value:Int)≤64)&&exprOk p names.length s.value
mutual
def refStm (p:Prg):Stm→List ByteArray→Int→Int→Bool×Int
 | s@⟨kind,name,_,_,_,_,_,_,_,_,body,_,els⟩,names,depth,st =>
  if kind=1 then (if cFor p names s=true then refList p body (names++[name]) (depth+1) st else (false,st))
  else if kind=2 then (if cIf names s=true then (if (refList p body names depth st).1=true then refList p els names depth (refList p body names depth st).2 else (false,(refList p body names depth st).2)) else (false,st))
  else if kind=3 then (cAsgR p names s,st)
  else (false,st)
def refList (p:Prg):List Stm→List ByteArray→Int→Int→Bool×Int
 | [],_,_,st=>(true,st)
 | s::l,names,depth,st=>if 256 < st+1∨10 < depth then (false,st+1) else (if (refStm p s names depth (st+1)).1=true then refList p l names depth (refStm p s names depth (st+1)).2 else (false,(refStm p s names depth (st+1)).2))
end
section
variable {p:Prg} {s:Stm} {names:List ByteArray} {st depth:Int} {xs ys:List Stm}
theorem refStm_for (h:s.kind=1):refStm p s names depth st=if cFor p names s=true then refList p s.body (names++[s.name]) (depth+1) st else (false,st):=by
 cases s; simp only at h; rw [refStm]; simp only [h,if_true]
theorem refStm_if (h:s.kind=2):refStm p s names depth st=if cIf names s=true then (if (refList p s.body names depth st).1=true then refList p s.els names depth (refList p s.body names depth st).2 else (false,(refList p s.body names depth st).2)) else (false,st):=by
 cases s; simp only at h; rw [refStm]
 have h1:¬ (2:Int)=1:=by decide
 simp only [h,h1,if_true,if_false]
theorem refStm_asg (h:s.kind=3):refStm p s names depth st=(cAsgR p names s,st):=by
 cases s; simp only at h; rw [refStm]
 have h1:¬ (3:Int)=1:=by decide
 have h2:¬ (3:Int)=2:=by decide
 simp only [h,h1,h2,if_true,if_false]
theorem refStm_bad (h1:s.kind≠1) (h2:s.kind≠2) (h3:s.kind≠3):refStm p s names depth st=(false,st):=by
 cases s; simp only at h1 h2 h3; rw [refStm]
 simp only [h1,h2,h3,if_false]
theorem refList_cons:refList p (s::xs) names depth st=if 256 < st+1∨10 < depth then (false,st+1) else (if (refStm p s names depth (st+1)).1=true then refList p xs names depth (refStm p s names depth (st+1)).2 else (false,(refStm p s names depth (st+1)).2)):=by rw [refList]
end
def RefBody (p:Prg) (l ci:Nat) (ss:List Stm):Prop:=∀ (names:List ByteArray) (nb bn:Bool) (depth st:Int) (S:St),(names.length:Int)≤900+depth→(nb=true→names=[])→getBox S l ci=some (encChk p st)→0≤st→st≤256→0≤depth→depth≤11 →
 CallIs theEnv (.fn 71) [.ptr l ci 0, .slice (nk bn) (ss.map encStm), .slice (nk nb) (names.map encS), .int .i64 depth] S (.ret (.bool (refList p ss names depth st).1)) (setBox S l ci (encChk p (refList p ss names depth st).2))
def RefStmt (p:Prg) (l ci:Nat) (s:Stm):Prop:=∀ (names:List ByteArray) (nb:Bool) (depth st:Int) (S:St),(names.length:Int)≤900+depth→(nb=true→names=[])→getBox S l ci=some (encChk p st)→0≤st→st≤256→0≤depth→depth≤10 →
 CallIs theEnv (.fn 103) [.ptr l ci 0, .agg (encStm s), .slice (nk nb) (names.map encS), .int .i64 depth] S (.ret (.bool (refStm p s names depth st).1)) (setBox S l ci (encChk p (refStm p s names depth st).2))
theorem stm_agree {p:Prg}:∀ (s:Stm) (names:List ByteArray) (depth st:Int),depth=(names.length:Int) - p.params.length→(chkStm p s names st).1=(refStm p s names depth st).1∧((chkStm p s names st).1=true→(chkStm p s names st).2=(refStm p s names depth st).2):=by
 have list:∀ (l:List Stm),(∀ s∈l, ∀ (names:List ByteArray) (depth st:Int),depth=(names.length:Int) - p.params.length→(chkStm p s names st).1=(refStm p s names depth st).1∧((chkStm p s names st).1=true→(chkStm p s names st).2=(refStm p s names depth st).2)) →
   ∀ (names:List ByteArray) (depth st:Int),depth=(names.length:Int) - p.params.length→depth≤10→(chkList p l names st).1=(refList p l names depth st).1∧((chkList p l names st).1=true→(chkList p l names st).2=(refList p l names depth st).2):=by
  intro l
  induction l with
  | nil=>intro _ names depth st _ _; rw [chkList,refList]; simp
  | cons s l ih =>
   intro h names depth st hd h10
   rw [chkList_cons,refList_cons]
   have a:=h s List.mem_cons_self names depth (st+1) hd
   by_cases h1:st+1≤256
   ·have h1':¬(256 < st+1∨10 < depth):=by omega
    rw [if_pos h1,if_neg h1', ← a.1]
    split
    ·rename_i h2
     rw [← a.2 h2]
     exact ih (fun s hs=>h s (List.mem_cons_of_mem _ hs)) names depth _ hd h10
    ·simp
   ·have h1':256 < st+1∨10 < depth:=by omega
    rw [if_neg h1,if_pos h1']; simp
 have body:∀ (l:List Stm),(∀ s∈l, ∀ (names:List ByteArray) (depth st:Int),depth=(names.length:Int) - p.params.length→(chkStm p s names st).1=(refStm p s names depth st).1∧((chkStm p s names st).1=true→(chkStm p s names st).2=(refStm p s names depth st).2)) →
   ∀ (names:List ByteArray) (depth st:Int),depth=(names.length:Int) - p.params.length→(chkBody p l names st).1=(refList p l names depth st).1∧((chkBody p l names st).1=true→(chkBody p l names st).2=(refList p l names depth st).2):=by
  intro l h names depth st hd
  unfold chkBody
  by_cases h10:depth≤10
  ·have:deep p l names=true:=by simp only [deep]; simp; omega
   rw [if_pos this]
   exact list l h names depth st hd h10
  ·cases l with
   | nil=>simp [deep,chkList,refList]
   | cons s l =>
    have:deep p (s::l) names=false:=by simp only [deep]; simp; omega
    rw [if_neg (by rw [this]; simp),refList_cons,if_pos (show 256 < st+1∨10 < depth by omega)]; simp
 refine Stm.ind fun s ihb ihe names depth st hd=>?_
 by_cases h1:s.kind=1
 ·rw [chkStm_for h1,refStm_for h1]
  split
  ·exact body _ ihb _ _ _ (by simp; omega)
  ·simp
 by_cases h2:s.kind=2
 ·rw [chkStm_if h2,refStm_if h2]
  split
  ·have a:=body _ ihb names depth st hd
   rw [← a.1]
   split
   ·rename_i h3
    rw [← a.2 h3]
    exact body _ ihe names depth _ hd
   ·simp
  ·simp
 by_cases h3:s.kind=3
 ·rw [chkStm_asg h3,refStm_asg h3]
  refine ⟨?_,fun _=>rfl⟩
  simp only [cAsg,cAsgR]
  have hn:=(node_expr (p:=p) (n:=(names.length:Int)) s.value 0).1
  have h4:=nodes_eq s.value
  rw [hn]
  have:decide ((nodesE s.value:Int)≤64)=decide ((0:Int)+(cntE s.value:Int)≤64):=by
   rw [decide_eq_decide]
   constructor
   ·intro h; have:=h4.2 (by omega); omega
   ·intro h; omega
  rw [this]
  cases exprOk p names.length s.value<;>cases decide ((0:Int)+(cntE s.value:Int)≤64)<;>simp
 ·rw [chkStm_bad h1 h2 h3,refStm_bad h1 h2 h3]; simp
end Wp
end AM
end Go.Proofs.Ytimfbnojmdnlnaa
end
section
namespace Go.Proofs.Ytimfbnojmdnlnaa
namespace AM
namespace Wp
inductive SmS:Stm→Prop where
 | mk (x:Stm) (v:cntE x.value≤1000000000) (b:∀ y∈x.body,SmS y) (e:∀ y∈x.els,SmS y):SmS x
def arrOk (n:Int) (a:Arr):Bool:=decide ((a.sizes.length:Int)≤3)&&a.sizes.all (vOverL n)
def allNames (p:Prg):List ByteArray:=p.params++p.arrays.map (·.name)
def refPrg (p:Prg):Bool:=(decide ((p.params.length:Int)≤2)&&decide ((p.arrays.length:Int)≤8))&&p.arrays.all (arrOk p.params.length)&&hPar [] (allNames p)&&(refList p p.body p.params 0 0).1
theorem hArr_split {n:Int}:∀ {l:List Arr} {acc:List ByteArray},hArr n acc l=(l.all (arrOk n)&&hPar acc (l.map (·.name)))
 | [],acc=>rfl
 | a::l,acc=>by
  simp only [hArr,hArr_split (l:=l),List.all_cons,List.map_cons,hPar,arrOk]
  cases vName a.name<;>cases isNew acc a.name<;>cases decide ((a.sizes.length:Int)≤3)<;>cases a.sizes.all (vOverL n)<;>simp
theorem prg_agree (p:Prg):chkPrg p=refPrg p:=by
 unfold chkPrg refPrg vHead allNames
 have h:=(stm_agree (p:=p))
 have hb:(chkBody p p.body p.params 0).1=(refList p p.body p.params 0 0).1:=by
  unfold chkBody
  have hd:deep p p.body p.params=true:=by simp only [deep]; simp
  rw [if_pos hd]
  have list:∀ (l:List Stm) (st:Int),(chkList p l p.params st).1=(refList p l p.params 0 st).1:=by
   intro l
   induction l with
   | nil=>intro st; rw [chkList,refList]
   | cons s l ih =>
    intro st
    rw [chkList_cons,refList_cons]
    have a:=h s p.params 0 (st+1) (by omega)
    by_cases h1:st+1≤256
    ·have h1':¬(256 < st+1∨10 < (0:Int)):=by omega
     rw [if_pos h1,if_neg h1', ← a.1]
     split
     ·rename_i h2
      rw [← a.2 h2]
      exact ih _
     ·rfl
    ·have h1':256 < st+1∨10 < (0:Int):=by omega
     rw [if_neg h1,if_pos h1']
  exact list _ _
 rw [hb,hArr_split,hPar_app,List.nil_append]
 cases decide ((p.params.length:Int)≤2)&&decide ((p.arrays.length:Int)≤8)<;>cases p.arrays.all (arrOk p.params.length)<;>cases hPar [] p.params<;>simp
end Wp
end AM
end Go.Proofs.Ytimfbnojmdnlnaa
end
section
namespace Go.Proofs.Ytimfbnojmdnlnaa
namespace AM
namespace Wp
def wi (x:Int):Int:=IntKind.i64.wrap x
theorem wi_id {x:Int} (h1:-9223372036854775808≤x) (h2:x≤9223372036854775807):wi x=x:=wrap64 h1 h2
def linStep (n:Int) (p:Int×Int):Int:=wi (n+wi (p.1*p.2))
def linAt (l:Lin) (x:List Int):Int:=(l.c.zip x).foldl linStep l.k
structure Shape where
 sizes:List Int
 cells:Int
def imin (a b:Int):Int:=if b < a then b else a
def imax (a b:Int):Int:=if b > a then b else a
def encShape (x:Shape):List V:=[.slice (nk x.sizes.isEmpty) (x.sizes.map encI), .int .i64 x.cells]
def shStep (c n:Int):Int:=imin (wi (c*imax n 0)) 4097
def shCells (ns:List Int):Int:=if ns.any (fun n=>decide (n < 1)) then 0 else ns.foldl shStep 1
def sizesOf (a:Arr) (ps:List Int):List Int:=a.sizes.map fun l=>linAt l ps
def shapeOf (ps:List Int) (a:Arr):Shape:=⟨sizesOf a ps,shCells (sizesOf a ps)⟩
def shapesOf (ps:List Int) (ar:List Arr):List Shape:=ar.map (shapeOf ps)
def totOf (l:List Shape):Int:=l.foldl (fun t s=>wi (t+s.cells)) 0
def tooBig (ps:List Int) (a:Arr):Bool:=a.sizes.any fun l=>decide (linAt l ps > 4096)
def shErr (ps:List Int) (ar:List Arr):Int:=if ar.any (tooBig ps) then 3 else if totOf (shapesOf ps ar) > 4096 then 3 else 0
def rcStep (c n:Int):Int:=wi (c*imax (imin n 4096) 0)
def rcCells (ns:List Int):Int:=ns.foldl rcStep 1
def rcOf (ps:List Int) (ar:List Arr):List Int:=ar.map fun a=>rcCells (sizesOf a ps)
def rsum (l:List Int):Int:=l.foldl (fun t n=>wi (t+imin n 4097)) 0
def rcErr (ps:List Int) (ar:List Arr):Int:=if rsum (rcOf ps ar) > 4096 then 3 else if ar.any (tooBig ps) then 3 else 0
theorem cells_pos:∀ (ns:List Int) (P c:Int) (B:Nat),(∀ n∈ns,1≤n∧n≤4096)→0≤P→P*4096 ^ ns.length≤68719476736→c=imin P 4097→ns.foldl shStep c=imin (ns.foldl rcStep P) 4097∧0≤ns.foldl rcStep P∧ns.foldl rcStep P≤68719476736
 | [],P,c,B,_,h0,h1,hc=>⟨hc,h0,by simpa using h1⟩
 | n::ns,P,c,B,hn,h0,h1,hc=>by
  have hn1:=hn n (by simp)
  simp only [List.foldl_cons]
  have e1:imax n 0=n:=by unfold imax; split<;>omega
  have e2:imax (imin n 4096) 0=n:=by unfold imax imin; split<;>split<;>omega
  have hp:(1:Int)≤4096 ^ ns.length:=by
   have:(0:Int) < 4096 ^ ns.length:=Int.pow_pos (by decide)
   omega
  have hP:P*n≤P*4096:=Int.mul_le_mul_of_nonneg_left hn1.2 h0
  have hP0:0≤P*n:=Int.mul_nonneg h0 (by omega)
  have h2:P*n*4096 ^ ns.length≤68719476736:=by
   have:P*n*4096 ^ ns.length≤P*4096*4096 ^ ns.length:=Int.mul_le_mul_of_nonneg_right hP (by omega)
   have e:P*4096*4096 ^ ns.length=P*4096 ^ (n::ns).length:=by
    rw [List.length_cons,Int.pow_succ,Int.mul_assoc,Int.mul_comm 4096]
   omega
  have h3:P*n≤68719476736:=by
   have:P*n*1≤P*n*4096 ^ ns.length:=Int.mul_le_mul_of_nonneg_left hp hP0
   omega
  have s1:rcStep P n=P*n:=by
   unfold rcStep; rw [e2]; exact wi_id (by omega) (by omega)
  have s2:shStep c n=imin (P*n) 4097:=by
   have hc0:0≤c∧c≤4097:=by subst hc; unfold imin; split<;>omega
   have hcn:c*n≤4097*n:=Int.mul_le_mul_of_nonneg_right hc0.2 (by omega)
   have hcn0:0≤c*n:=Int.mul_nonneg hc0.1 (by omega)
   unfold shStep
   rw [e1,wi_id (by omega) (by omega)]
   subst hc
   by_cases hle:P≤4097
   ·have:imin P 4097=P:=by unfold imin; split<;>omega
    rw [this]
   ·have hm:imin P 4097=4097:=by unfold imin; split<;>omega
    rw [hm]
    have h5:4097*n≤P*n:=Int.mul_le_mul_of_nonneg_right (by omega) (by omega)
    unfold imin
    split<;>split<;>omega
  rw [s1,s2]
  exact cells_pos ns (P*n) _ B (fun m hm=>hn m (List.mem_cons_of_mem _ hm)) hP0 h2 rfl
theorem rc_zero:∀ (ns:List Int),ns.foldl rcStep 0=0
 | []=>rfl
 | n::ns=>by
  have:rcStep 0 n=0:=by unfold rcStep; rw [Int.zero_mul]; rfl
  rw [List.foldl_cons,this,rc_zero ns]
theorem rc_any:∀ (ns:List Int) (P:Int),ns.any (fun n=>decide (n < 1))=true→ns.foldl rcStep P=0
 | [],_,h=>by simp at h
 | n::ns,P,h=>by
  rw [List.foldl_cons]
  by_cases hn:n < 1
  ·have:rcStep P n=0:=by
    have e:imax (imin n 4096) 0=0:=by unfold imax imin; split<;>split<;>omega
    unfold rcStep; rw [e,Int.mul_zero]; rfl
   rw [this,rc_zero]
  ·simp only [List.any_cons,hn,decide_false,Bool.false_or] at h
   exact rc_any ns _ h
theorem cells_same {ns:List Int} (hl:ns.length≤3) (hb:∀ n∈ns,n≤4096):shCells ns=imin (rcCells ns) 4097∧0≤rcCells ns∧rcCells ns≤68719476736:=by
 unfold shCells rcCells
 split
 ·rename_i h
  rw [rc_any ns 1 h]
  exact ⟨rfl,by decide,by decide⟩
 ·rename_i h
  have h1:∀ n∈ns,1≤n∧n≤4096:=by
   intro n hn
   refine ⟨?_,hb n hn⟩
   simp only [List.any_eq_true,not_exists,not_and,decide_eq_true_eq] at h
   have:=h n hn
   omega
  refine cells_pos ns 1 1 0 h1 (by decide) ?_ rfl
  rw [Int.one_mul]
  have:ns.length=0∨ns.length=1∨ns.length=2∨ns.length=3:=by omega
  rcases this with h | h | h | h<;>rw [h]<;>decide
theorem hArr_mem {n:Int}:∀ {ar:List Arr} {acc:List ByteArray},hArr n acc ar=true→∀ a∈ar,a.sizes.length≤3∧a.sizes.all (vOverL n)=true
 | [],_,_,a,h=>by simp at h
 | b::ar,acc,h,a,ha=>by
  simp only [hArr,Bool.and_eq_true,decide_eq_true_eq] at h
  rcases List.mem_cons.1 ha with rfl | ha
  ·exact ⟨by omega,h.1.2⟩
  ·exact hArr_mem h.2 a ha
theorem chk_head {p:Prg} (h:chkPrg p=true):p.params.length≤2∧p.arrays.length≤8∧∀ a∈p.arrays,a.sizes.length≤3∧∀ l∈a.sizes,l.c.length=p.params.length:=by
 simp only [chkPrg,vHead,Bool.and_eq_true,decide_eq_true_eq] at h
 refine ⟨by omega,by omega,fun a ha=>?_⟩
 have h1:=hArr_mem h.1.2 a ha
 refine ⟨h1.1,fun l hl=>?_⟩
 have h2:=List.all_eq_true.1 h1.2 l hl
 unfold vOverL at h2
 simp only [Bool.and_eq_true,decide_eq_true_eq] at h2
 omega
theorem tot_le:∀ (l:List Int) (t:Int),0≤t→t+l.length*4097≤1000000→(∀ n∈l,0≤n∧n≤4097)→l.foldl (fun t n=>wi (t+n)) t ≥ t∧∀ n∈l,t+n≤l.foldl (fun t n=>wi (t+n)) t
 | [],t,_,_,_=>⟨Int.le_refl _,by simp⟩
 | n::l,t,h0,h1,h=>by
  have hn:=h n (by simp)
  simp only [List.length_cons] at h1
  rw [List.foldl_cons,wi_id (by omega) (by omega)]
  have ih:=tot_le l (t+n) (by omega) (by omega) fun m hm=>h m (List.mem_cons_of_mem _ hm)
  refine ⟨by omega,fun m hm=>?_⟩
  rcases List.mem_cons.1 hm with rfl | hm
  ·exact ih.1
  ·have:=ih.2 m hm
   omega
theorem cells_agree {p:Prg} (hc:chkPrg p=true) {ps:List Int} (he:shErr ps p.arrays=0):(shapesOf ps p.arrays).map (·.cells)=rcOf ps p.arrays∧∀ n∈rcOf ps p.arrays,0≤n∧n≤4096:=by
 have hh:=chk_head hc
 unfold shErr at he
 split at he
 ·cases he
 ·rename_i hb
  have hs:∀ a∈p.arrays,shCells (sizesOf a ps)=imin (rcCells (sizesOf a ps)) 4097∧0≤rcCells (sizesOf a ps):=by
   intro a ha
   have h1:∀ n∈sizesOf a ps,n≤4096:=by
    intro n hn
    obtain ⟨l,hl,rfl⟩:=List.mem_map.1 hn
    simp only [List.any_eq_true,not_exists,not_and] at hb
    have:=hb a ha
    simp only [tooBig,List.any_eq_true,not_exists,not_and,decide_eq_true_eq] at this
    have:=this l hl
    omega
   have h2:=cells_same (by simpa [sizesOf] using (hh.2.2 a ha).1) h1
   exact ⟨h2.1,h2.2.1⟩
  have ht:=tot_le ((shapesOf ps p.arrays).map (·.cells)) 0 (by decide) (by simp [shapesOf]; omega) (by
   intro n hn
   simp only [shapesOf,List.map_map,List.mem_map,Function.comp_apply,shapeOf] at hn
   obtain ⟨a,ha,rfl⟩:=hn
   have:=hs a ha
   rw [this.1]
   unfold imin
   split<;>omega)
  have e:((shapesOf ps p.arrays).map (·.cells)).foldl (fun t n=>wi (t+n)) 0=totOf (shapesOf ps p.arrays):=by
   rw [List.foldl_map]; rfl
  rw [e] at ht
  have hle:totOf (shapesOf ps p.arrays)≤4096:=by
   split at he
   ·cases he
   ·omega
  have key:∀ a∈p.arrays,(shapeOf ps a).cells=rcCells (sizesOf a ps)∧rcCells (sizesOf a ps)≤4096:=by
   intro a ha
   have h1:=hs a ha
   have h2:=ht.2 ((shapeOf ps a).cells) (by simp only [shapesOf,List.map_map,List.mem_map,Function.comp_apply]; exact ⟨a,ha,rfl⟩)
   have h3:(shapeOf ps a).cells=imin (rcCells (sizesOf a ps)) 4097:=h1.1
   have h0:=ht.1
   rw [h3] at h2
   have hlt:rcCells (sizesOf a ps)≤4096:=by
    unfold imin at h2
    split at h2<;>omega
   refine ⟨?_,hlt⟩
   rw [h3]
   unfold imin
   rw [if_neg (by omega)]
  refine ⟨?_,?_⟩
  ·simp only [shapesOf,rcOf,List.map_map]
   exact List.map_congr_left fun a ha=>(key a ha).1
  ·intro n hn
   simp only [rcOf,List.mem_map] at hn
   obtain ⟨a,ha,rfl⟩:=hn
   exact ⟨(hs a ha).2,(key a ha).2⟩
end Wp
end AM
end Go.Proofs.Ytimfbnojmdnlnaa
end
