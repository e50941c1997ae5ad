/- How much a program weighs. -/
import Derived.Test.YtimfbnojmdnlnaaKM16
set_option linter.all false
set_option maxRecDepth 100000
namespace Go.Proofs.Ytimfbnojmdnlnaa
namespace AM
namespace Wp
abbrev wr (n:Int):Int:=IntKind.i64.wrap n
mutual
def weighE:Exp→Int→Int
 | ⟨_,_,_,r,_,args⟩,most=>weighEs args most (wr (1+r.subs.length))
def weighEs:List Exp→Int→Int→Int
 | [],_,n=>n
 | a::l,most,n=>weighEs l most (if n≤most then wr (n+weighE a (wr (most - n))) else n)
end
theorem weighEs_snoc {most:Int} {y:Exp}:∀ {xs:List Exp} {n:Int},weighEs (xs++[y]) most n=if weighEs xs most n≤most then wr (weighEs xs most n+weighE y (wr (most - weighEs xs most n))) else weighEs xs most n
 | [],n=>rfl
 | x::xs,n=>by simp only [List.cons_append,weighEs]; exact weighEs_snoc
theorem weighE_args {x:Exp} {most:Int}:weighE x most=weighEs x.args most (wr (1+x.r.subs.length)):=by cases x; rw [weighE]
theorem take_snoc' {α:Type} {l:List α} {k:Nat} {x:α} (h:l[k]?=some x):l.take (k+1)=l.take k++[x]:=by
 rw [List.take_add_one,h]; rfl
theorem drop_at {α:Type} {l:List α} {k:Nat} {x:α} (h:l[k]?=some x):l.drop k=x::l.drop (k+1):=by
 have h1:=(List.getElem?_eq_some_iff.1 h).2
 rw [← h1,List.getElem_cons_drop]
theorem weigh_exp:∀ x,OkExp x→∀ most,Sp theEnv 63 [.agg (encExp x), .int .i64 most] (.int .i64 (weighE x most)):=by
 refine Exp.ind fun x ih hx most=>?_
 refine Sp.fn rfl rfl rfl sx sy fun S=>?_; simp only [a63,c63,go_sem,simprocAttr]
 refine Run_range x.args.length [1,14] [5] (fun k vs S'=>vs=[.int .i64 (weighEs (x.args.take k) most (wr (1+x.r.subs.length)))]∧∃ B,S'=⟨encExp x::B,none⟩::S) hx.n' sx sx rfl rfl rfl rfl sx ⟨by simp only [go_sem,simprocAttr,List.take_zero,weighEs],⟨_,rfl⟩⟩ ?_ ?_
 ·rintro k F _ hk ⟨hv,B,rfl⟩ hi hkept
  simp only [go_sem,simprocAttr] at hkept hv
  obtain ⟨y,hy⟩:∃ y,x.args[k]?=some y:=⟨x.args[k],List.getElem?_eq_getElem hk⟩
  have hm:=List.mem_of_getElem? hy
  simp only [go_sem,simprocAttr,hkept,hi,hv,iaO_map hy,Run_if,(ih y hm (hx.s' y hm) _).call,take_snoc' hy,weighEs_snoc]
  split<;>simp_all only [if_true,if_false]
 ·rintro F _ ⟨hv,B,rfl⟩ hkept
  simp only [go_sem,simprocAttr] at hkept hv
  simp only [go_sem,simprocAttr,hkept,hv,List.take_length,weighE_args]
def wPart (n:Int) (q:Part):Int:=wr (n+wr (1+(q.rows.length:Int)))
def wPiece (n:Int) (q:Piece):Int:=wr (n+wr (1+(q.conds.length:Int)))
def wParts (n:Int) (l:List Part):Int:=l.foldl wPart n
def wBound (n:Int) (b:Bound):Int:=wParts n b.parts
def wHead (s:Stm) (most n:Int):Int:=(s.test.pieces).foldl wPiece ([s.low,s.high].foldl wBound (wr (n+wr (wr (1+(s.target.subs.length:Int))+weighE s.value most))))
mutual
def weighS:Stm→Int→Int→Int
 | s@⟨_,_,_,_,_,_,_,_,_,_,body,_,els⟩,most,n =>
  let n3:=wHead s most n
  let n4:=if n3≤most then wr (n3+weighL body (wr (most - n3)) 0) else n3
  if n4≤most then wr (n4+weighL els (wr (most - n4)) 0) else n4
def weighL:List Stm→Int→Int→Int
 | [],_,n=>n
 | s::l,most,n=>if most < weighS s most n then weighS s most n else weighL l most (weighS s most n)
end
theorem foldl_snoc {α β:Type} {f:β→α→β} {l:List α} {k:Nat} {x:α} {n:β} (h:l[k]?=some x):(l.take (k+1)).foldl f n=f ((l.take k).foldl f n) x:=by
 rw [take_snoc' h,List.foldl_append]; rfl
theorem weighS_eq {s:Stm} {most n:Int}:weighS s most n=(let n3:=wHead s most n; let n4:=if n3≤most then wr (n3+weighL s.body (wr (most - n3)) 0) else n3; if n4≤most then wr (n4+weighL s.els (wr (most - n4)) 0) else n4):=by
 cases s; rw [weighS]
theorem weigh_list:∀ (l:List Stm),l.length≤LIM→(∀ s∈l,OkStm s∧(∀ most b,Sp theEnv 28 [.slice (nk b) (s.body.map encStm), .int .i64 most] (.int .i64 (weighL s.body most 0)))∧(∀ most b,Sp theEnv 28 [.slice (nk b) (s.els.map encStm), .int .i64 most] (.int .i64 (weighL s.els most 0)))) →
  ∀ most b,Sp theEnv 28 [.slice (nk b) (l.map encStm), .int .i64 most] (.int .i64 (weighL l most 0)):=by
 intro l hl hs most b
 refine Sp.fn rfl rfl rfl sx sy fun S=>?_; simp only [a28,c28,go_sem,simprocAttr]
 refine Run_range l.length [1,14] [5] (fun k vs S'=>∃ n,vs=[.int .i64 n]∧weighL l most 0=weighL (l.drop k) most n∧∃ B,S'=⟨B,none⟩::S) hl sx sx rfl rfl rfl rfl sx ⟨0,by simp only [go_sem,simprocAttr],by rw [List.drop_zero],⟨_,rfl⟩⟩ ?_ ?_
 ·rintro k F _ hk ⟨n,hv,hw,B,rfl⟩ hi hkept
  simp only [go_sem,simprocAttr] at hkept hv
  obtain ⟨s,hsk⟩:∃ s,l[k]?=some s:=⟨l[k],List.getElem?_eq_getElem hk⟩
  obtain ⟨hso,hsb,hse⟩:=hs s (List.mem_of_getElem? hsk)
  simp only [go_sem,simprocAttr,hkept,hi,hv,iaO_map hsk,(weigh_exp _ hso.value' _).call]
  rw [drop_at hsk,weighL] at hw
  refine Run_range 2 [1,7,14,16,36] [5] (fun k vs S'=>vs=[.int .i64 (([s.low,s.high].take k).foldl wBound (wr (n+wr (wr (1+(s.target.subs.length:Int))+weighE s.value most))))]∧∃ B2,S'=⟨B++encStm s::B2,none⟩::S) (by decide) sx sx rfl rfl rfl rfl (by simp only [go_sem,simprocAttr,hkept,hi]) ⟨by simp only [go_sem,simprocAttr,List.take_zero,List.foldl_nil],⟨[],by simp only [go_sem,simprocAttr]⟩⟩ ?_ ?_
  ·rintro k2 F2 _ hk2 ⟨hv2,B2,rfl⟩ hi2 hkept2
   simp only [go_sem,simprocAttr,hkept,hi] at hkept2 hv2
   obtain ⟨q,hq,hq',hqo⟩:∃ q,[s.low,s.high][k2]?=some q∧([encBound s.low,encBound s.high]:List (List V))[k2]?=some (encBound q)∧OkBound q:=by
    match k2,hk2 with
    | 0,_=>exact ⟨_,rfl,rfl,hso.low'⟩
    | 1,_=>exact ⟨_,rfl,rfl,hso.high'⟩
   simp only [go_sem,simprocAttr,hkept2,hi2,iaO_at hq' (len_Bound q)]
   refine Run_range q.parts.length [1,7,14,16,36,38,43] [5] (fun k vs S'=>vs=[.int .i64 (wParts (([s.low,s.high].take k2).foldl wBound (wr (n+wr (wr (1+(s.target.subs.length:Int))+weighE s.value most)))) (q.parts.take k))]∧∃ B2,S'=⟨B++encStm s::B2,none⟩::S) hqo.l sx sx rfl rfl rfl rfl (by simp only [go_sem,simprocAttr,hkept2,hi2]) ⟨by simp only [go_sem,simprocAttr,hv2,List.take_zero,wParts,List.foldl_nil],⟨_,rfl⟩⟩ ?_ ?_
   ·rintro k3 F3 _ hk3 ⟨hv3,B3,rfl⟩ hi3 hkept3
    simp only [go_sem,simprocAttr,hkept2,hi2] at hkept3 hv3
    obtain ⟨r,hr⟩:∃ r,q.parts[k3]?=some r:=⟨q.parts[k3],List.getElem?_eq_getElem hk3⟩
    simp only [go_sem,simprocAttr,hkept3,hi3,hv3,iaO_map hr,wParts,foldl_snoc hr,wPart]
    exact ⟨_,rfl⟩
   ·rintro F3 _ ⟨hv3,B3,rfl⟩ hkept3
    simp only [go_sem,simprocAttr,hkept2,hi2] at hkept3 hv3
    simp only [go_sem,simprocAttr,hv3,List.take_length,foldl_snoc hq,wBound]
    exact ⟨_,rfl⟩
  ·rintro F2 _ ⟨hv2,B2,rfl⟩ hkept2
   simp only [go_sem,simprocAttr,hkept,hi] at hkept2 hv2
   have ht2:[s.low,s.high].take 2=[s.low,s.high]:=rfl
   rw [ht2] at hv2
   simp only [go_sem,simprocAttr,hkept2]
   refine Run_range s.test.pieces.length [1,7,14,16,58] [5] (fun k vs S'=>vs=[.int .i64 ((s.test.pieces.take k).foldl wPiece ([s.low,s.high].foldl wBound (wr (n+wr (wr (1+(s.target.subs.length:Int))+weighE s.value most)))))]∧∃ B2,S'=⟨B++encStm s::B2,none⟩::S) hso.test'.l sx sx rfl rfl rfl rfl (by simp only [go_sem,simprocAttr,hkept2]) ⟨by simp only [go_sem,simprocAttr,hv2,List.take_zero,List.foldl_nil],⟨_,rfl⟩⟩ ?_ ?_
   ·rintro k3 F3 _ hk3 ⟨hv3,B3,rfl⟩ hi3 hkept3
    simp only [go_sem,simprocAttr,hkept2] at hkept3 hv3
    obtain ⟨r,hr⟩:∃ r,s.test.pieces[k3]?=some r:=⟨s.test.pieces[k3],List.getElem?_eq_getElem hk3⟩
    simp only [go_sem,simprocAttr,hkept3,hi3,hv3,iaO_map hr,foldl_snoc hr,wPiece]
    exact ⟨_,rfl⟩
   ·rintro F3 _ ⟨hv3,B3,rfl⟩ hkept3
    simp only [go_sem,simprocAttr,hkept2] at hkept3 hv3
    rw [List.take_length] at hv3
    have hh:(s.test.pieces).foldl wPiece ([s.low,s.high].foldl wBound (wr (n+wr (wr (1+(s.target.subs.length:Int))+weighE s.value most))))=wHead s most n:=rfl
    rw [hh] at hv3
    simp only [go_sem,simprocAttr,hkept3,hv3,Run_if,(hsb _ _).call,(hse _ _).call]
    rw [weighS_eq] at hw
    simp only [wr] at hw
    by_cases c1:wHead s most n≤most
    ·simp only [c1,if_true] at hw ⊢
     generalize IntKind.i64.wrap (wHead s most n+weighL s.body (IntKind.i64.wrap (most - wHead s most n)) 0)=n4 at hw ⊢
     by_cases c2:n4≤most
     ·simp only [c2,if_true] at hw ⊢
      generalize IntKind.i64.wrap (n4+weighL s.els (IntKind.i64.wrap (most - n4)) 0)=n5 at hw ⊢
      by_cases c3:most < n5
      ·simp only [c3,if_true] at hw ⊢; exact hw.symm
      ·simp only [c3,if_false] at hw ⊢; exact ⟨_,rfl,hw⟩
     ·simp only [c2,if_false] at hw ⊢
      have c3:most < n4:=by omega
      simp only [c3,if_true] at hw ⊢; exact hw.symm
    ·simp only [c1,if_false] at hw ⊢
     have c3:most < wHead s most n:=by omega
     simp only [c3,if_true] at hw ⊢; exact hw.symm
 ·rintro F _ ⟨n,hv,hw,B,rfl⟩ hkept
  simp only [go_sem,simprocAttr] at hkept hv
  simp only [go_sem,simprocAttr,hkept,hv,hw,List.drop_length,weighL]
theorem weigh_all:∀ s,OkStm s→(∀ most b,Sp theEnv 28 [.slice (nk b) (s.body.map encStm), .int .i64 most] (.int .i64 (weighL s.body most 0)))∧(∀ most b,Sp theEnv 28 [.slice (nk b) (s.els.map encStm), .int .i64 most] (.int .i64 (weighL s.els most 0))):=by
 refine Stm.ind fun s ihb ihe hs=>?_
 exact ⟨weigh_list _ hs.bn' fun t ht=>⟨hs.body' t ht,ihb t ht (hs.body' t ht)⟩,weigh_list _ hs.en' fun t ht=>⟨hs.els' t ht,ihe t ht (hs.els' t ht)⟩⟩
def wArr (n:Int) (a:Arr):Int:=wr (n+wr (1+(a.sizes.length:Int)))
def fewN (p:Prg):Int:=p.arrays.foldl wArr (p.params.length:Int)
def few (p:Prg) (most:Int):Bool:=decide (fewN p≤most)&&decide (wr (fewN p+weighL p.body (wr (most - fewN p)) 0)≤most)
theorem few_ok {p:Prg} (hp:OkPrg p) (most:Int):Sp theEnv 8 [.agg (encPrg p), .int .i64 most] (.bool (few p most)):=by
 refine Sp.fn rfl rfl rfl sx sy fun S=>?_; simp only [a8,c8,go_sem,simprocAttr]
 refine Run_range p.arrays.length [1,2,12] [5] (fun k vs S'=>vs=[.int .i64 ((p.arrays.take k).foldl wArr (p.params.length:Int))]∧∃ B2,S'=⟨encPrg p::B2,none⟩::S) hp.al sx sx rfl rfl rfl rfl sx ⟨by simp only [go_sem,simprocAttr,List.take_zero,List.foldl_nil],⟨_,rfl⟩⟩ ?_ ?_
 ·rintro k F _ hk ⟨hv,B,rfl⟩ hi hkept
  simp only [go_sem,simprocAttr] at hkept hv
  obtain ⟨a,ha⟩:∃ a,p.arrays[k]?=some a:=⟨p.arrays[k],List.getElem?_eq_getElem hk⟩
  simp only [go_sem,simprocAttr,hkept,hi,hv,iaO_map ha,foldl_snoc ha,wArr]
 ·rintro F _ ⟨hv,B,rfl⟩ hkept
  simp only [go_sem,simprocAttr] at hkept hv
  rw [List.take_length] at hv
  have hh:p.arrays.foldl wArr (p.params.length:Int)=fewN p:=rfl
  rw [hh] at hv
  have hw:=fun most=>weigh_list p.body hp.bl (fun s hs=>⟨hp.bs s hs,weigh_all s (hp.bs s hs)⟩) most p.bn
  simp only [go_sem,simprocAttr,hkept,hv,(hw _).callG,few]
end Wp
end AM
end Go.Proofs.Ytimfbnojmdnlnaa
