/- headlandref02.Order; SameMemory; the example of the chapter in a call; run.fitting; run.Fresh; The reference's Fresh. -/
import Derived.Test.YtimfbnojmdnlnaaKSbL
import Derived.Test.YtimfbnojmdnlnaaKM26
import Derived.Test.YtimfbnojmdnlnaaKWpF
import Derived.Test.YtimfbnojmdnlnaaKM2
import Derived.Test.YtimfbnojmdnlnaaKM32
import Derived.Test.YtimfbnojmdnlnaaKM28
set_option linter.all false
set_option maxRecDepth 100000
section
namespace Go.Proofs.Ytimfbnojmdnlnaa
namespace AM
namespace Wp
def ordI:List Int→List Int→Int
 | x::a,y::b=>if x < y then -1 else if y < x then 1 else ordI a b
 | _,_=>0
theorem ordI_at:∀ {a b:List Int} {k:Nat} {x y:Int},a.take k=b.take k→a[k]?=some x→b[k]?=some y→ordI a b=if x < y then -1 else if y < x then 1 else ordI (a.drop (k+1)) (b.drop (k+1))
 | u::a,v::b,0,x,y,_,hx,hy=>by
  simp at hx hy; subst hx; subst hy; simp [ordI]
 | u::a,v::b,k+1,x,y,h,hx,hy=>by
  simp only [List.take_succ_cons,List.cons.injEq] at h
  obtain ⟨rfl,h⟩:=h
  simp only [List.getElem?_cons_succ] at hx hy
  have:=ordI_at h hx hy
  simp only [ordI,Int.lt_irrefl,if_false,List.drop_succ_cons,this]
 | [],_,k,_,_,_,hx,_=>by simp at hx
 | _::_,[],k,_,_,_,_,hy=>by simp at hy
theorem ordI_zero:∀ {a b:List Int},a=b.take a.length→ordI a b=0
 | [],b,_=>by cases b<;>rfl
 | x::a,[],h=>by simp at h
 | x::a,y::b,h=>by
  simp only [List.length_cons,List.take_succ_cons,List.cons.injEq] at h
  obtain ⟨rfl,h⟩:=h
  simp only [ordI,Int.lt_irrefl,if_false,ordI_zero h]
theorem order_ok {b1 b2:Bool} {a b:List Int} (hl:a.length≤1000000000) (hab:a.length≤b.length):Sp theEnv 17 [.slice (nk b1) (a.map encI), .slice (nk b2) (b.map encI)] (.int .i64 (ordI a b)):=by
 refine Sp.fn rfl rfl rfl sx sy fun S=>?_; simp only [a17,c17,go_sem,simprocAttr]
 refine Run_range a.length [0,1] [] (fun k _ S'=>a.take k=b.take k∧∃ B,S'=⟨B,none⟩::S) (Nat.le_trans hl (by decide)) sx sx rfl rfl rfl rfl sx ⟨rfl,_,rfl⟩ ?_ ?_
 ·rintro k F _ hk ⟨hB,B,rfl⟩ hi hkept
  simp only [go_sem,simprocAttr] at hkept
  obtain ⟨x,hx⟩:∃ x,a[k]?=some x:=⟨a[k],List.getElem?_eq_getElem hk⟩
  obtain ⟨y,hy⟩:∃ y,b[k]?=some y:=⟨b[k]'(by omega),List.getElem?_eq_getElem (by omega)⟩
  have ho:=ordI_at hB hx hy
  simp only [go_sem,simprocAttr,hkept,hi,iaO_map hx,iaO_map hy,Run_if]
  split
  ·rename_i h1
   rw [ho,if_pos h1]
  ·rename_i h1
   split
   ·rename_i h2
    rw [ho,if_neg h1,if_pos h2]
   ·rename_i h2
    have hxy:x=y:=by omega
    subst hxy
    rw [take_snoc' hx,take_snoc' hy,hB]
 ·rintro F _ ⟨hB,B,rfl⟩ hkept
  rw [List.take_length] at hB
  simp only [go_sem,simprocAttr,ordI_zero hB]
end Wp
end AM
end Go.Proofs.Ytimfbnojmdnlnaa
end
section
namespace Go.Proofs.Ytimfbnojmdnlnaa
namespace AM
theorem awake12_fuel (k:Nat):callN theEnv (k+300) (.fn 22) [] []=some (.ret (.bool true),[]):=by kernel_rfl
theorem awake12_ev:EvC theEnv 22 [] (.bool true):=⟨300,fun j hj=>by
 obtain ⟨k,rfl⟩:∃ k,j=k+300:=⟨j - 300,by omega⟩
 exact awake12_fuel k⟩
namespace Wp
section
variable {E:Env} {d:Option Nat} {cn:Cn} {ks:List KI} {F:Fr} {S:St} {Q:Ex→Fr→St→Prop}
theorem evc12_q {f:Nat} {args:List V} {v:V} (h:EvC E f args v):CallIs E (.fn f) args [] (.ret v) []:=h
theorem evc12_call {f:Nat} {args:List V} {v:V} (h:EvC E f args v) (ha:lowL 0 args=true) (hl:∀ n,low n v=true):Call E f args d cn ks F S Q=Wk E cn ks (putO F d v) S Q:=by
 unfold Call
 cases cn with
 | s bs =>
  simp only [callK,ha,if_true]
  rw [(evc12_q h).q]
  simp [hl]
 | f all os bs =>
  simp only [callFK,ha,if_true]
  rw [(evc12_q h).q]
  simp [hl]
theorem evc12_callG {f:Nat} {args:List V} {v gv:V} {b:Bool} (h:EvC E f args v) (ha:lowL 0 args=true) (hl:∀ n,low n v=true):CallG E f args gv b d cn ks F S Q=(isDef gv=true∧Wk E cn ks (putO F d (gsel gv b v)) S Q):=by
 unfold CallG
 rw [evc12_call h ha hl,isDef_iff]
 by_cases hb:gv=.bool b
 ·subst hb; simp [gsel_self]
 ·simp [hb,gsel_other hb]
theorem awake12_c:Call theEnv 22 [] d cn ks F S Q=Wk theEnv cn ks (putO F d (.bool true)) S Q :=
 evc12_call awake12_ev rfl fun _=>rfl
theorem awake12_g {gv:V} {b:Bool}:CallG theEnv 22 [] gv b d cn ks F S Q=(isDef gv=true∧Wk theEnv cn ks (putO F d (gsel gv b (.bool true))) S Q) :=
 evc12_callG awake12_ev rfl fun _=>rfl
end
@[go_sem] theorem len_Mem (x:Mem):(encMem x).length=1:=_root_.id rfl
@[go_sem] theorem one_Mem (x:Mem):cutV (encMem x) 0 1 false=some (.slice (nk x.n) (x.row.map encI)):=by
 simp only [encMem,go_sem,simprocAttr,strip_nk]
def rowEq (p:Mem×Mem):Bool:=decide (p.1.row.length=p.2.row.length)&&decide (ordI p.1.row p.2.row=0)
def memEq (a b:List Mem):Bool:=decide (a.length=b.length)&&(a.zip b).all rowEq
theorem ordI_same:∀ a:List Int,ordI a a=0
 | []=>rfl
 | x::a=>by simp [ordI,ordI_same a]
theorem memEq_rows {a b:List Mem} (h:a.map (·.row)=b.map (·.row)):memEq a b=true:=by
 have hl:a.length=b.length:=by simpa using congrArg List.length h
 simp only [memEq,hl,decide_true,Bool.true_and]
 refine List.all_eq_true.2 fun p hp=>?_
 obtain ⟨i,hi⟩:=List.mem_iff_getElem?.1 hp
 rw [List.getElem?_zip_eq_some] at hi
 have h1:(a.map (·.row))[i]?=(b.map (·.row))[i]?:=by rw [h]
 rw [List.getElem?_map,List.getElem?_map,hi.1,hi.2] at h1
 simp only [Option.map_some,Option.some.injEq] at h1
 simp [rowEq,h1,ordI_same]
theorem samemem_ok {b1 b2:Bool} {a b:List Mem} (hl:a.length≤1000000000) (hr:∀ x∈a,x.row.length≤1000000000) :
  Sp theEnv 27 [.slice (nk b1) (a.map encMem), .slice (nk b2) (b.map encMem)] (.bool (memEq a b)):=by
 refine Sp.fn rfl rfl rfl sx sy fun S=>?_; simp only [a27,c27,go_sem,simprocAttr]
 rw [Run_if]
 simp only [go_sem,simprocAttr]
 by_cases hab:a.length=b.length
 ·simp only [hab,go_sem,simprocAttr,memEq,decide_true,Bool.true_and]
  have hz:(a.zip b).length=a.length:=by rw [List.length_zip]; omega
  refine Run_all (a.zip b) rowEq (fun S'=>S'=⟨[],none⟩::S) [0,1] (by omega) sx (by simp only [go_sem,simprocAttr,hz,hab]) rfl rfl rfl sx rfl ?_ ?_
  ·rintro k F _ q hq hqm rfl hi hkept hno
   simp only [go_sem,simprocAttr] at hkept
   obtain ⟨h1,h2⟩:=List.getElem?_zip_eq_some.1 hq
   have hl1:=hr q.1 (List.mem_of_getElem? h1)
   simp only [go_sem,simprocAttr,hkept,hi,iaO_map h1,iaO_map h2]
   by_cases hql:q.1.row.length=q.2.row.length
   ·have ho:=order_ok (b1:=q.1.n) (b2:=q.2.n) (a:=q.1.row) (b:=q.2.row) hl1 (by omega)
    have hre:rowEq q=decide (ordI q.1.row q.2.row=0):=by simp [rowEq,hql]
    rw [hre] at hno ⊢
    simp only [hql,go_sem,simprocAttr,ho.call,Run_if]
    grind
   ·have hql':¬ ((q.1.row.length:Int)=(q.2.row.length:Int)):=by omega
    have hre:rowEq q=false:=by simp [rowEq,hql]
    rw [hre] at hno ⊢
    have h9:=hno rfl
    simp only [hql,decide_false,Bool.not_false,h9,go_sem,simprocAttr,Run_if]
  ·rintro F _ hall rfl hkept
   simp only [go_sem,simprocAttr] at hkept
   simp only [go_sem,simprocAttr,hall]
 ·have hab':¬ ((a.length:Int)=(b.length:Int)):=by omega
  simp [hab,hab',memEq,go_sem,simprocAttr]
end Wp
end AM
end Go.Proofs.Ytimfbnojmdnlnaa
end
section
namespace Go.Proofs.Ytimfbnojmdnlnaa
namespace AM
namespace Wp
def outI (n:Int):Bool:=decide (n < -2147483648)||decide (2147483648≤n)
theorem out_ok (n:Int):Sp theEnv 115 [.int .i64 n] (.bool (outI n)):=by
 refine Sp.fn rfl rfl rfl sx sy fun S=>?_; simp only [a115,c115,go_sem,simprocAttr]
 rfl
theorem idxi_ok {k:Bool} {r:List Int} (hl:r.length≤LIM):Sp theEnv 139 [.slice (nk k) (r.map encI), .func (.func 115) []] (.int .i64 (idxF outI 0 r)):=by
 refine Sp.fn rfl rfl rfl sx sy fun S=>?_; simp only [a139,c139,go_sem,simprocAttr]
 refine Run_range r.length [0,1] [] (fun k vs S'=>idxF outI k (r.drop k)=idxF outI 0 r∧S'=⟨[],none⟩::S) (Nat.le_trans hl (by decide)) sx sx rfl rfl rfl rfl sx ⟨rfl,rfl⟩ ?_ ?_
 ·rintro k F _ hk ⟨hv,rfl⟩ hi hkept
  simp only [go_sem,simprocAttr] at hkept
  obtain ⟨y,hy⟩:∃ y,r[k]?=some y:=⟨r[k],List.getElem?_eq_getElem hk⟩
  rw [drop_at hy,idxF] at hv
  simp only [go_sem,simprocAttr,hkept,hi,iaO_map hy]
  rw [(out_ok y).callv0 rfl]
  simp only [go_sem,simprocAttr]
  rw [Run_if]
  simp only [go_sem,simprocAttr]
  split
  ·rename_i h
   rw [if_pos h] at hv
   simp only [go_sem,simprocAttr,hkept,hi,hv]
  ·rename_i h
   rw [if_neg h] at hv
   exact hv
 ·rintro F _ ⟨hv,rfl⟩ hkept
  simp only [go_sem,simprocAttr] at hkept
  rw [List.drop_length,idxF] at hv
  simp only [go_sem,simprocAttr,hkept, ← hv]
theorem coni_ok {k:Bool} {r:List Int} (hl:r.length≤LIM):Sp theEnv 114 [.slice (nk k) (r.map encI), .func (.func 115) []] (.bool (decide (0≤idxF outI 0 r))):=by
 refine Sp.fn rfl rfl rfl sx sy fun S=>?_; simp only [a114,c114,go_sem,simprocAttr]
 simp only [(idxi_ok hl).call,go_sem,simprocAttr]
def fitP (q:Mem×Shape):Bool:=decide ((q.1.row.length:Int)=q.2.cells)&&!decide (0≤idxF outI 0 q.1.row)
def fitV (mem:List Mem) (sh:List Shape):Bool:=decide (mem.length=sh.length)&&(mem.zip sh).all fitP
theorem fitting_ok {b bs:Bool} {mem:List Mem} {sh:List Shape} (hl:mem.length≤LIM) (hr:∀ m∈mem,m.row.length≤LIM) :
  Sp theEnv 90 [.slice (nk b) (mem.map encMem), .slice (nk bs) (sh.map encShape)] (.bool (fitV mem sh)):=by
 refine Sp.fn rfl rfl rfl sx sy fun S=>?_; simp only [a90,c90,go_sem,simprocAttr]
 rw [Run_if]
 simp only [go_sem,simprocAttr]
 by_cases hab:mem.length=sh.length
 ·simp only [hab,go_sem,simprocAttr,fitV,decide_true,Bool.true_and]
  have hz:(mem.zip sh).length=mem.length:=by rw [List.length_zip]; omega
  refine Run_all (mem.zip sh) fitP (fun S'=>S'=⟨[],none⟩::S) [1,12] (by rw [hz]; exact Nat.le_trans hl (by decide)) sx (by simp only [go_sem,simprocAttr,hz,hab]) rfl rfl rfl sx rfl ?_ ?_
  ·rintro k F _ q hq hqm rfl hi hkept hno
   simp only [go_sem,simprocAttr] at hkept
   obtain ⟨h1,h2⟩:=List.getElem?_zip_eq_some.1 hq
   have hl1:=hr q.1 (List.mem_of_getElem? h1)
   simp only [go_sem,simprocAttr,hkept,hi,iaO_map h1,iaO_map h2,(coni_ok hl1).callG,Run_if]
   simp only [fitP] at hno ⊢
   grind
  ·rintro F _ hall rfl hkept
   simp only [go_sem,simprocAttr] at hkept
   simp only [go_sem,simprocAttr,hall]
 ·have hab':¬ ((mem.length:Int)=(sh.length:Int)):=by omega
  simp [hab,hab',fitV,go_sem,simprocAttr]
theorem fitV_len {mem:List Mem} {sh:List Shape} (h:fitV mem sh=true):mem.map (fun m=>(m.row.length:Int))=sh.map (·.cells):=by
 simp only [fitV,Bool.and_eq_true,decide_eq_true_eq] at h
 apply List.ext_getElem?
 intro j
 rw [List.getElem?_map,List.getElem?_map]
 cases hm:mem[j]? with
 | none =>
  have:sh[j]?=none:=by rw [List.getElem?_eq_none_iff] at hm ⊢; omega
  rw [this]; rfl
 | some m =>
  have hj:=(List.getElem?_eq_some_iff.1 hm).1
  have hs:sh[j]?=some (sh[j]'(by omega)):=List.getElem?_eq_getElem (by omega)
  rw [hs]
  have hz:(mem.zip sh)[j]?=some (m,sh[j]'(by omega)):=by rw [List.getElem?_zip_eq_some]; exact ⟨hm,hs⟩
  have:=List.all_eq_true.1 h.2 _ (List.mem_of_getElem? hz)
  simp only [fitP,Bool.and_eq_true,decide_eq_true_eq] at this
  simp [this.1]
end Wp
end AM
end Go.Proofs.Ytimfbnojmdnlnaa
end
section
namespace Go.Proofs.Ytimfbnojmdnlnaa
namespace AM
namespace Wp
def memV (c:Bool) (l:List (List Int)):V:=if c=true then .slice .shut (l.map fun r=>encMem ⟨false,r⟩) else .slice .nil []
def cellsL (p:Prg) (ps:List Int):List Int:=(shapesOf ps p.arrays).map (·.cells)
end Wp
end AM
end Go.Proofs.Ytimfbnojmdnlnaa
end
section
namespace Go.Proofs.Ytimfbnojmdnlnaa
namespace AM
namespace Wp
section
variable {E:Env} {ks:List KI} {F:Fr} {S R:St} {Q:Ex→Fr→St→Prop} {bs:List Blk} {d:Option Nat} {B:List (List V)} {lp:Option Lp}
theorem Rowr1 {e:Nat} {x:Opd} {w:V} (hx:cellsOf (strip (evO F x))=some [w]) (hl:low (R.length+1) w=true) :
  Wk E (.s (.seq ⟨d, .rowr e 1 [x],none⟩::bs)) ks F (⟨B,lp⟩::R) Q=Wk E (.s bs) ks (putO F d (.bsl R.length (blen B) 0 1 1 e)) (⟨badd B [w],lp⟩::R) Q:=by
 have h:rowsB F (R.length+1) 1 [x]=some [w]:=by simp [rowsB,hx,lowL,hl]
 apply propext
 constructor
 ·rintro ⟨_,h2⟩
  simp only [h] at h2
  exact h2
 ·intro h2
  refine ⟨⟨by simp,by simp,by simp⟩,?_⟩
  simp only [h]
  exact h2
theorem src1 {i e:Nat} {w:V} (hg:bget B i=some [w]) (hw:strip w=w):srcRows (⟨B,lp⟩::R) 1 (.bsl R.length i 0 1 1 e)=some [[w]]:=by
 have h1:getBox (⟨B,lp⟩::R) R.length i=some [w]:=by rw [getBox_top]; exact hg
 simp only [srcRows,h1]
 simp [cutL,hw,chunk]
theorem Appr0 {e i b:Nat} {x y:Opd} {w:V} (hx:evO F x=.slice .nil []) (hy:evO F y=.bsl R.length i 0 1 1 e) (hg:bget B i=some [w]) (hw:strip w=w) (hl:low (R.length+1) w=true) (ho:noOwn [w]=true) (hb:b≤1000) :
  Wk E (.s (.seq ⟨d, .appr e 1 b x y none,none⟩::bs)) ks F (⟨B,lp⟩::R) Q=Wk E (.s bs) ks (putO (unown F x) d (.bsl R.length (blen B) 0 1 1 e)) (⟨badd B [w],lp⟩::R) Q:=by
 have h1:lenAt (⟨B,lp⟩::R) R.length=blen B:=by simp [lenAt,blen]
 have h2:addBox (⟨B,lp⟩::R) R.length [w]=⟨badd B [w],lp⟩::R:=by simp [addBox,badd]
 have h3:lvOf F (⟨B,lp⟩::R) none=some R.length:=by simp [lvOf]
 show apprK e 1 b (evO F x) (srcRows (⟨B,lp⟩::R) 1 (evO F y)) (lvOf F (⟨B,lp⟩::R) none) d F (unown F x) (⟨B,lp⟩::R) (fun F S=>Wk E (.s bs) ks F S Q)=_
 rw [hx,hy,src1 hg hw,h3]
 apply propext
 constructor
 ·rintro ⟨_,_,_,h⟩
  rw [List.flatten_singleton] at h
  rw [h1,h2] at h
  exact h
 ·intro h
  refine ⟨⟨rfl,by decide,by simp; omega,by simp⟩,?_⟩
  simp only [List.flatten_singleton]
  refine ⟨by simp [lowL,hl],ho,?_⟩
  rw [h1,h2]
  exact h
theorem Appr1 {e i j c b:Nat} {x y:Opd} {w:V} {cs:List V} (hx:evO F x=.bsl R.length j 0 c 1 e) (hy:evO F y=.bsl R.length i 0 1 1 e) (hj:bget B j=some cs) (hc:cs.length=c) (hos:noOwn cs=true) (hg:bget B i=some [w]) (hw:strip w=w) (hl:low (R.length+1) w=true) (ho:noOwn [w]=true) (hb:(c+1)*b≤140737488355328) (hcc:c+1≤140737488355328) :
  Wk E (.s (.seq ⟨d, .appr e 1 b x y none,none⟩::bs)) ks F (⟨B,lp⟩::R) Q=Wk E (.s bs) ks (putO F d (.bsl R.length (blen B) 0 (c+1) 1 e)) (⟨badd (bset B j dead) (cs++[w]),lp⟩::R) Q:=by
 have h1:lenAt (⟨B,lp⟩::R) R.length=blen B:=by simp [lenAt,blen]
 have h2:addBox (setBox (⟨B,lp⟩::R) R.length j dead) R.length (cs++[w])=⟨badd (bset B j dead) (cs++[w]),lp⟩::R:=by rw [setBox_top]; simp [addBox,badd]
 have h3:lvOf F (⟨B,lp⟩::R) none=some R.length:=by simp [lvOf]
 have h4:((getBox (⟨B,lp⟩::R) R.length j).bind fun cs=>cutL cs 0 (c*1))=some cs:=by
  rw [getBox_top,hj]; subst hc; simp [cutL]
 show apprK e 1 b (evO F x) (srcRows (⟨B,lp⟩::R) 1 (evO F y)) (lvOf F (⟨B,lp⟩::R) none) d F (unown F x) (⟨B,lp⟩::R) (fun F S=>Wk E (.s bs) ks F S Q)=_
 rw [hx,hy,src1 hg hw,h3]
 simp only [apprK,h4,List.flatten_singleton,List.length_singleton]
 rw [h1,h2]
 apply propext
 constructor
 ·rintro ⟨_,_,_,_,h⟩
  exact h
 ·intro h
  exact ⟨⟨by simp,by simp,by simp,by simp,hb,hcc⟩,hos,by simp [lowL,hl],ho,h⟩
end
end Wp
end AM
end Go.Proofs.Ytimfbnojmdnlnaa
end
