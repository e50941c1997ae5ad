/- run.machine: at, bound. -/
import Derived.Test.YtimfbnojmdnlnaaKM28
import Derived.Test.YtimfbnojmdnlnaaKM17
set_option linter.all false
set_option maxRecDepth 100000
namespace Go.Proofs.Ytimfbnojmdnlnaa
namespace AM
namespace Wp
variable {L:Nat}
theorem low0_ptr {l i o:Nat} {ar:List V}:lowL 0 (.ptr l i o::ar)=false:=by simp [lowL,low]
def floorV (a b:Int):Int:=if b < 1 then 0 else if a.tmod b < 0 then wi (wi (a.tdiv b) - 1) else wi (a.tdiv b)
def ceilV (a b:Int):Int:=if b < 1 then 0 else if 0 < a.tmod b then wi (wi (a.tdiv b)+1) else wi (a.tdiv b)
def divE (b:Int):Int:=if b < 1 then 1 else 0
theorem floor_ok (a b:Int):Sp theEnv 153 [.int .i64 a, .int .i64 b] (.tup [.int .i64 (floorV a b), .int .i64 (divE b)]):=by
 refine Sp.fn rfl rfl rfl sx sy fun S=>?_; simp only [a153,c153,go_sem,simprocAttr]
 rw [Run_if]
 simp only [go_sem,simprocAttr,floorV,divE]
 by_cases h:b < 1
 ·simp only [h,go_sem,simprocAttr]
 ·have h0:b≠0:=by omega
  simp only [h,go_sem,simprocAttr,bin_quo h0,bin_rem h0]
  rw [Run_if]
  simp only [go_sem,simprocAttr]
  split<;>rename_i h2<;>simp only [h2,go_sem,simprocAttr,wi]
theorem ceil_ok (a b:Int):Sp theEnv 155 [.int .i64 a, .int .i64 b] (.tup [.int .i64 (ceilV a b), .int .i64 (divE b)]):=by
 refine Sp.fn rfl rfl rfl sx sy fun S=>?_; simp only [a155,c155,go_sem,simprocAttr]
 rw [Run_if]
 simp only [go_sem,simprocAttr,ceilV,divE]
 by_cases h:b < 1
 ·simp only [h,go_sem,simprocAttr]
 ·have h0:b≠0:=by omega
  simp only [h,go_sem,simprocAttr,bin_quo h0,bin_rem h0]
  rw [Run_if]
  simp only [go_sem,simprocAttr]
  split<;>rename_i h2<;>simp only [h2,go_sem,simprocAttr,wi]
theorem least_ok (a b:Int):Sp theEnv 120 [.int .i64 a, .int .i64 b] (.int .i64 (imin a b)):=by
 refine Sp.fn rfl rfl rfl sx sy fun S=>?_; simp only [a120,c120,go_sem,simprocAttr]
theorem greatest_ok (a b:Int):Sp theEnv 121 [.int .i64 a, .int .i64 b] (.int .i64 (imax a b)):=by
 refine Sp.fn rfl rfl rfl sx sy fun S=>?_; simp only [a121,c121,go_sem,simprocAttr]
def mach (L:Nat) (sh mv:V) (np:Int) (xv:V) (steps:Int) (vi:Nat):List V :=
 [sh,mv, .int .i64 np,xv, .int .i64 steps, .bool false, .func (.func 92) [.ptr L 1 0, .ptr L vi 0], .func (.func 116) [], .func (.func 118) [], .func (.func 119) [], .func (.func 120) [], .func (.func 121) []]
def machU (sh mv:V) (np:Int) (xv:V) (steps:Int) (dry:Bool) (uv:V):List V :=
 [sh,mv, .int .i64 np,xv, .int .i64 steps, .bool dry,uv, .func (.func 116) [], .func (.func 118) [], .func (.func 119) [], .func (.func 120) [], .func (.func 121) []]
def XS (L:Nat) (S:St) (xv:V) (x:List Int):Prop:=(x=[]∧xv=.slice .nil [])∨∃ xi rest,xv=.bsl L xi 0 x.length 1 3∧getBox S L xi=some (ints (x++rest))
theorem XS.up {S:St} {T:Lev} {xv:V} {x:List Int} (h:XS L S xv x):XS L (T::S) xv x:=by
 rcases h with h | ⟨xi,rest,h1,h2⟩
 ·exact .inl h
 ·exact .inr ⟨xi,rest,h1,getBox_up h2⟩
theorem XS.st {S:St} {xv:V} {x:List Int} (h:XS L S xv x):strip xv=xv:=by
 rcases h with ⟨_,rfl⟩ | ⟨xi,rest,rfl,_⟩<;>rfl
theorem cut_ints {r:List Int} {k:Nat} {y:Int} (h:r[k]?=some y):cutV (ints r) k 1 false=some (.int .i64 y):=by
 have hk:=(List.getElem?_eq_some_iff.1 h).1
 simp only [cutV,cutL]
 rw [if_pos (by rw [ints_len]; omega)]
 have h1:(ints r)[k]?=some (.int .i64 y):=by simp [ints,h]
 have h2:((ints r).drop k).take 1=[.int .i64 y]:=by
  have hk':k < (ints r).length:=by rw [ints_len]; exact hk
  rw [← List.getElem_cons_drop hk']
  rw [List.getElem?_eq_getElem hk'] at h1
  simp only [Option.some.injEq] at h1
  rw [h1]; rfl
 rw [h2]; rfl
theorem XS.rd {S:St} {xv:V} {x:List Int} (h:XS L S xv x) {k:Nat} {y:Int} (hy:x[k]?=some y):∃ xi,(∀ kk:IntKind,iaO 1 xv (.int kk (k:Int))=some (.ptr L xi k))∧∀ T:Lev,onBox (getBox (T::S) L xi) k 1 false=some (.int .i64 y):=by
 have hk:=(List.getElem?_eq_some_iff.1 hy).1
 rcases h with ⟨rfl,_⟩ | ⟨xi,rest,rfl,hb⟩
 ·simp at hk
 ·refine ⟨xi,fun kk=>by rw [iaO_bsl hk]; simp,fun T=>?_⟩
  rw [getBox_up hb]
  exact cut_ints (by rw [List.getElem?_append_left hk]; exact hy)
theorem at_runU {S:St} {sh mv xv uv:V} {np st:Int} {dry:Bool} {mi:Nat} {x:List Int} {l:Lin} (hm:getBox S L mi=some (machU sh mv np xv st dry uv)) (hx:XS L S xv x) (hl:l.c.length≤x.length) (hxl:x.length≤LIM) :
  CallIs theEnv (.fn 154) [.ptr L mi 0, .agg (encLin l)] S (.ret (.int .i64 (linAt l x))) S:=by
 refine CallIs.fn rfl rfl rfl ?_
 have g1:=fun T=>getBox_up (T:=T) hm
 have hs:=hx.st
 have hzl:(l.c.zip x).length=l.c.length:=by rw [List.length_zip]; omega
 simp only [a154,c154,go_sem,simprocAttr]
 refine Run_range l.c.length [0,11] [5] (fun k vs S'=>vs=[.int .i64 (((l.c.zip x).take k).foldl linStep l.k)]∧S'=⟨[encLin l],none⟩::S) (Nat.le_trans hl (Nat.le_trans hxl (by decide))) sx sx rfl rfl rfl rfl sx ⟨by simp only [go_sem,simprocAttr,List.take_zero,List.foldl_nil],rfl⟩ ?_ ?_
 ·rintro k F _ hk ⟨hv,rfl⟩ hi hkept
  simp only [go_sem,simprocAttr] at hkept hv
  obtain ⟨c,hc⟩:∃ c,l.c[k]?=some c:=⟨l.c[k],List.getElem?_eq_getElem hk⟩
  obtain ⟨y,hy⟩:∃ y,x[k]?=some y:=⟨x[k]'(by omega),List.getElem?_eq_getElem (by omega)⟩
  obtain ⟨xi,hia,hrd⟩:=hx.rd hy
  simp only [go_sem,simprocAttr,hkept,hi,hv,iaO_map hc,g1,machU,hs,hia,hrd,foldl_snoc (zip_get hc hy),linStep,wi]
 ·rintro F _ ⟨hv,rfl⟩ hkept
  simp only [go_sem,simprocAttr] at hkept hv
  have hat:((l.c.zip x).take l.c.length).foldl linStep l.k=linAt l x:=by
   rw [← hzl,List.take_length]; rfl
  rw [hat] at hv
  simp only [go_sem,simprocAttr,hkept,hv]
def rowV (up:Bool) (x:List Int) (r:Rw):Int:=if up then ceilV (linAt r.l x) r.div else floorV (linAt r.l x) r.div
def inV (up:Bool) (a b:Int):Int:=if up then imax a b else imin a b
def outV (up:Bool) (a b:Int):Int:=if up then imin a b else imax a b
def rowStep (up:Bool) (x:List Int) (o:Option Int) (r:Rw):Option Int:=some (inV up (o.getD (rowV up x r)) (rowV up x r))
def partV (up:Bool) (x:List Int) (q:Part):Int:=(q.rows.foldl (rowStep up x) none).getD 0
def partStep (up:Bool) (x:List Int) (o:Option Int) (q:Part):Option Int:=some (outV up (o.getD (partV up x q)) (partV up x q))
def boundR (up:Bool) (x:List Int) (b:Bound):Int:=(b.parts.foldl (partStep up x) none).getD 0
def boundV (up:Bool) (x:List Int) (b:Bound):Option Int:=if boundR up x b < -4294967296∨4294967296 < boundR up x b then none else some (boundR up x b)
theorem fold_some {α:Type} {f:Option Int→α→Option Int} (hf:∀ o a,(f o a).isSome=true) {l:List α} (hl:l≠[]):∃ y,l.foldl f none=some y:=by
 have:∀ (l:List α) (o:Option Int),l≠[]→(l.foldl f o).isSome=true:=by
  intro l
  induction l with
  | nil=>intro o h; exact absurd rfl h
  | cons a l ih =>
   intro o _
   rw [List.foldl_cons]
   cases l with
   | nil=>exact hf o a
   | cons b l=>exact ih _ (by simp)
 exact Option.isSome_iff_exists.1 (this l none hl)
def ended (e:Int):V:=.ifc 170 (.agg [.int .i64 e])
def outN (e:Int) (o:Option Int):Out:=match o with | some n=>.ret (.int .i64 n) | none=>.pan (ended e)
def okBx (x:List Int) (b:Bound):Prop:=b.parts.length≤LIM∧∀ q∈b.parts,q.rows.length≤LIM∧∀ r∈q.rows,r.l.c.length≤x.length
theorem bound_runU (up:Bool) {S:St} {sh mv xv uv:V} {np st:Int} {dry:Bool} {mi:Nat} {x:List Int} {b:Bound} (hm:getBox S L mi=some (machU sh mv np xv st dry uv)) (hx:XS L S xv x) (hb:okBx x b) (hxl:x.length≤LIM) (hcalm:calmS S=true) :
  CallIs theEnv (.fn 140) [.ptr L mi 0, .agg (encBound b), .bool up] S (outN 6 (boundV up x b)) S:=by
 refine CallIs.fn rfl rfl rfl ?_
 have g1:=fun T=>getBox_up (T:=T) hm
 have hs:=hx.st
 cases up with
 | true =>
  simp only [a140,c140,go_sem,simprocAttr,g1,machU,Wk_enter]
  refine Run_range b.parts.length [0,2,7,8,32] [9] (fun k vs S'=>vs=[.int .i64 (((b.parts.take k).foldl (partStep true x) none).getD 0)]∧∃ B,S'=⟨encBound b::B,none⟩::S∧calmB B=true) (Nat.le_trans hb.1 (by decide)) sx sx rfl rfl rfl rfl sx ⟨by simp only [go_sem,simprocAttr,List.take_zero,List.foldl_nil,Option.getD_none],_,rfl,rfl⟩ ?_ ?_
  ·rintro k F _ hk ⟨hv,B,rfl,hB⟩ hi hkept
   simp only [go_sem,simprocAttr] at hkept hv
   obtain ⟨q,hq⟩:∃ q,b.parts[k]?=some q:=⟨b.parts[k],List.getElem?_eq_getElem hk⟩
   have hqo:=hb.2 q (List.mem_of_getElem? hq)
   simp only [go_sem,simprocAttr,hkept,hi,iaO_map hq]
   refine Run_range q.rows.length [0,2,7,8,9,10,32,34,39] [12] (fun k2 vs S'=>vs=[.int .i64 (((q.rows.take k2).foldl (rowStep true x) none).getD 0)]∧∃ B,S'=⟨encBound b::B,none⟩::S∧calmB B=true) (Nat.le_trans hqo.1 (by decide)) sx sx rfl rfl rfl rfl (by simp only [go_sem,simprocAttr,hkept,hv,hi]) ⟨by simp only [go_sem,simprocAttr,List.take_zero,List.foldl_nil,Option.getD_none],_,rfl,hB⟩ ?_ ?_
   ·rintro k2 F2 _ hk2 ⟨hv2,B2,rfl,hB2⟩ hi2 hkept2
    simp only [go_sem,simprocAttr,hkept,hv,hi] at hkept2 hv2
    obtain ⟨r,hr⟩:∃ r,q.rows[k2]?=some r:=⟨q.rows[k2],List.getElem?_eq_getElem hk2⟩
    have hrl:=hqo.2 r (List.mem_of_getElem? hr)
    have hat:=at_runU (S:=⟨encBound b::(B2++[encRw r]),none⟩::S) (g1 _) hx.up hrl hxl
    have hca:calmS (⟨encBound b::(B2++[encRw r]),none⟩::S)=true:=by simp only [go_sem,simprocAttr,hB2,hcalm]
    have hcall:∀ {ks:List KI} {F:Fr} {Q:Ex→Fr→St→Prop} {os all:List AOper} {bs:List Blk} {d:Option Nat},Call theEnv 154 [.ptr L mi 0, .agg (encLin r.l)] d (.f all os bs) ks F (⟨encBound b::(B2++[encRw r]),none⟩::S) Q=Wk theEnv (.f all os bs) ks (putO F d (.int .i64 (linAt r.l x))) (⟨encBound b::(B2++[encRw r]),none⟩::S) Q:=fun {_ _ _ _ _ _ _}=>CallF hat low0_ptr rfl hca sx
    have hsn:(q.rows.take (k2+1)).foldl (rowStep true x) none=rowStep true x ((q.rows.take k2).foldl (rowStep true x) none) r:=foldl_snoc hr
    simp only [go_sem,simprocAttr,hkept2,hi2,iaO_map hr]
    simp only [go_sem,simprocAttr,hkept2,hcall,(floor_ok _ _).call,(ceil_ok _ _).call]
    rw [hsn]
    rw [Run_if]
    simp only [go_sem,simprocAttr]
    split
    ·rename_i h0
     subst h0
     simp only [go_sem,simprocAttr,hkept2,hv2,(greatest_ok _ _).callv0 rfl,List.take_zero,List.foldl_nil,rowStep,Option.getD_none,inV,rowV]
     exact ⟨_,rfl,by simp only [go_sem,simprocAttr,hB2]⟩
    ·rename_i h0
     obtain ⟨y,hy⟩:=fold_some (f:=rowStep true x) (fun _ _=>rfl) (l:=q.rows.take k2) (by intro h; have:=congrArg List.length h; rw [List.length_take,List.length_nil] at this; omega)
     rw [hy] at hv2 ⊢
     simp only [Option.getD_some] at hv2
     simp only [go_sem,simprocAttr,hkept2,hv2,(greatest_ok _ _).callv0 rfl,rowStep,inV,rowV]
     exact ⟨_,rfl,by simp only [go_sem,simprocAttr,hB2]⟩
   ·rintro F2 _ ⟨hv2,B2,rfl,hB2⟩ hkept2
    simp only [go_sem,simprocAttr,hkept,hv,hi] at hkept2 hv2
    rw [List.take_length,show ((q.rows.foldl (rowStep true x) none).getD 0)=partV true x q from rfl] at hv2
    have hsn:(b.parts.take (k+1)).foldl (partStep true x) none=partStep true x ((b.parts.take k).foldl (partStep true x) none) q:=foldl_snoc hq
    simp only [go_sem,simprocAttr,hkept2,hv2]
    rw [hsn]
    rw [Run_if]
    simp only [go_sem,simprocAttr]
    split
    ·rename_i h0
     subst h0
     simp only [go_sem,simprocAttr,hkept2,hv2,(least_ok _ _).callv0 rfl,List.take_zero,List.foldl_nil,partStep,Option.getD_none,outV]
     exact ⟨B2,rfl,hB2⟩
    ·rename_i h0
     obtain ⟨y,hy⟩:=fold_some (f:=partStep true x) (fun _ _=>rfl) (l:=b.parts.take k) (by intro h; have:=congrArg List.length h; rw [List.length_take,List.length_nil] at this; omega)
     rw [hy] at hv ⊢
     simp only [Option.getD_some] at hv
     simp only [go_sem,simprocAttr,hkept2,hv2,hv,hy,Option.getD_some,(least_ok _ _).callv0 rfl,partStep,outV]
     exact ⟨B2,rfl,hB2⟩
  ·rintro F _ ⟨hv,B,rfl,hB⟩ hkept
   simp only [go_sem,simprocAttr] at hkept hv
   rw [List.take_length,show ((b.parts.foldl (partStep true x) none).getD 0)=boundR true x b from rfl] at hv
   simp only [go_sem,simprocAttr,hkept,hv]
   rw [Run_if]
   simp only [go_sem,simprocAttr,boundV]
   split
   ·rename_i h
    simp only [Bool.or_eq_true,decide_eq_true_eq] at h
    rw [if_pos h]
    simp only [go_sem,simprocAttr,outN,ended]
   ·rename_i h
    simp only [Bool.or_eq_true,decide_eq_true_eq] at h
    rw [if_neg h]
    simp only [go_sem,simprocAttr,hv,outN]
 | false =>
  simp only [a140,c140,go_sem,simprocAttr,g1,machU,Wk_enter]
  refine Run_range b.parts.length [0,2,7,8,32] [9] (fun k vs S'=>vs=[.int .i64 (((b.parts.take k).foldl (partStep false x) none).getD 0)]∧∃ B,S'=⟨encBound b::B,none⟩::S∧calmB B=true) (Nat.le_trans hb.1 (by decide)) sx sx rfl rfl rfl rfl sx ⟨by simp only [go_sem,simprocAttr,List.take_zero,List.foldl_nil,Option.getD_none],_,rfl,rfl⟩ ?_ ?_
  ·rintro k F _ hk ⟨hv,B,rfl,hB⟩ hi hkept
   simp only [go_sem,simprocAttr] at hkept hv
   obtain ⟨q,hq⟩:∃ q,b.parts[k]?=some q:=⟨b.parts[k],List.getElem?_eq_getElem hk⟩
   have hqo:=hb.2 q (List.mem_of_getElem? hq)
   simp only [go_sem,simprocAttr,hkept,hi,iaO_map hq]
   refine Run_range q.rows.length [0,2,7,8,9,10,32,34,39] [12] (fun k2 vs S'=>vs=[.int .i64 (((q.rows.take k2).foldl (rowStep false x) none).getD 0)]∧∃ B,S'=⟨encBound b::B,none⟩::S∧calmB B=true) (Nat.le_trans hqo.1 (by decide)) sx sx rfl rfl rfl rfl (by simp only [go_sem,simprocAttr,hkept,hv,hi]) ⟨by simp only [go_sem,simprocAttr,List.take_zero,List.foldl_nil,Option.getD_none],_,rfl,hB⟩ ?_ ?_
   ·rintro k2 F2 _ hk2 ⟨hv2,B2,rfl,hB2⟩ hi2 hkept2
    simp only [go_sem,simprocAttr,hkept,hv,hi] at hkept2 hv2
    obtain ⟨r,hr⟩:∃ r,q.rows[k2]?=some r:=⟨q.rows[k2],List.getElem?_eq_getElem hk2⟩
    have hrl:=hqo.2 r (List.mem_of_getElem? hr)
    have hat:=at_runU (S:=⟨encBound b::(B2++[encRw r]),none⟩::S) (g1 _) hx.up hrl hxl
    have hca:calmS (⟨encBound b::(B2++[encRw r]),none⟩::S)=true:=by simp only [go_sem,simprocAttr,hB2,hcalm]
    have hcall:∀ {ks:List KI} {F:Fr} {Q:Ex→Fr→St→Prop} {os all:List AOper} {bs:List Blk} {d:Option Nat},Call theEnv 154 [.ptr L mi 0, .agg (encLin r.l)] d (.f all os bs) ks F (⟨encBound b::(B2++[encRw r]),none⟩::S) Q=Wk theEnv (.f all os bs) ks (putO F d (.int .i64 (linAt r.l x))) (⟨encBound b::(B2++[encRw r]),none⟩::S) Q:=fun {_ _ _ _ _ _ _}=>CallF hat low0_ptr rfl hca sx
    have hsn:(q.rows.take (k2+1)).foldl (rowStep false x) none=rowStep false x ((q.rows.take k2).foldl (rowStep false x) none) r:=foldl_snoc hr
    simp only [go_sem,simprocAttr,hkept2,hi2,iaO_map hr]
    simp only [go_sem,simprocAttr,hkept2,hcall,(floor_ok _ _).call,(ceil_ok _ _).call]
    rw [hsn]
    rw [Run_if]
    simp only [go_sem,simprocAttr]
    split
    ·rename_i h0
     subst h0
     simp only [go_sem,simprocAttr,hkept2,hv2,(least_ok _ _).callv0 rfl,List.take_zero,List.foldl_nil,rowStep,Option.getD_none,inV,rowV]
     exact ⟨_,rfl,by simp only [go_sem,simprocAttr,hB2]⟩
    ·rename_i h0
     obtain ⟨y,hy⟩:=fold_some (f:=rowStep false x) (fun _ _=>rfl) (l:=q.rows.take k2) (by intro h; have:=congrArg List.length h; rw [List.length_take,List.length_nil] at this; omega)
     rw [hy] at hv2 ⊢
     simp only [Option.getD_some] at hv2
     simp only [go_sem,simprocAttr,hkept2,hv2,(least_ok _ _).callv0 rfl,rowStep,inV,rowV]
     exact ⟨_,rfl,by simp only [go_sem,simprocAttr,hB2]⟩
   ·rintro F2 _ ⟨hv2,B2,rfl,hB2⟩ hkept2
    simp only [go_sem,simprocAttr,hkept,hv,hi] at hkept2 hv2
    rw [List.take_length,show ((q.rows.foldl (rowStep false x) none).getD 0)=partV false x q from rfl] at hv2
    have hsn:(b.parts.take (k+1)).foldl (partStep false x) none=partStep false x ((b.parts.take k).foldl (partStep false x) none) q:=foldl_snoc hq
    simp only [go_sem,simprocAttr,hkept2,hv2]
    rw [hsn]
    rw [Run_if]
    simp only [go_sem,simprocAttr]
    split
    ·rename_i h0
     subst h0
     simp only [go_sem,simprocAttr,hkept2,hv2,(greatest_ok _ _).callv0 rfl,List.take_zero,List.foldl_nil,partStep,Option.getD_none,outV]
     exact ⟨B2,rfl,hB2⟩
    ·rename_i h0
     obtain ⟨y,hy⟩:=fold_some (f:=partStep false x) (fun _ _=>rfl) (l:=b.parts.take k) (by intro h; have:=congrArg List.length h; rw [List.length_take,List.length_nil] at this; omega)
     rw [hy] at hv ⊢
     simp only [Option.getD_some] at hv
     simp only [go_sem,simprocAttr,hkept2,hv2,hv,hy,Option.getD_some,(greatest_ok _ _).callv0 rfl,partStep,outV]
     exact ⟨B2,rfl,hB2⟩
  ·rintro F _ ⟨hv,B,rfl,hB⟩ hkept
   simp only [go_sem,simprocAttr] at hkept hv
   rw [List.take_length,show ((b.parts.foldl (partStep false x) none).getD 0)=boundR false x b from rfl] at hv
   simp only [go_sem,simprocAttr,hkept,hv]
   rw [Run_if]
   simp only [go_sem,simprocAttr,boundV]
   split
   ·rename_i h
    simp only [Bool.or_eq_true,decide_eq_true_eq] at h
    rw [if_pos h]
    simp only [go_sem,simprocAttr,outN,ended]
   ·rename_i h
    simp only [Bool.or_eq_true,decide_eq_true_eq] at h
    rw [if_neg h]
    simp only [go_sem,simprocAttr,hv,outN]
theorem at_run {S:St} {sh mv xv:V} {np st:Int} {vi mi:Nat} {x:List Int} {l:Lin} (hm:getBox S L mi=some (mach L sh mv np xv st vi)) (hx:XS L S xv x) (hl:l.c.length≤x.length) (hxl:x.length≤LIM) :
  CallIs theEnv (.fn 154) [.ptr L mi 0, .agg (encLin l)] S (.ret (.int .i64 (linAt l x))) S:=at_runU hm hx hl hxl
theorem bound_run (up:Bool) {S:St} {sh mv xv:V} {np st:Int} {vi mi:Nat} {x:List Int} {b:Bound} (hm:getBox S L mi=some (mach L sh mv np xv st vi)) (hx:XS L S xv x) (hb:okBx x b) (hxl:x.length≤LIM) (hcalm:calmS S=true) :
  CallIs theEnv (.fn 140) [.ptr L mi 0, .agg (encBound b), .bool up] S (outN 6 (boundV up x b)) S:=bound_runU up hm hx hb hxl hcalm
end Wp
end AM
end Go.Proofs.Ytimfbnojmdnlnaa
