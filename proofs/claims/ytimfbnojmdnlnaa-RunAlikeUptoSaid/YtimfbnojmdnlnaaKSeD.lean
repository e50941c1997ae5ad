/- run.shapes and run.asked. -/
import Derived.Test.YtimfbnojmdnlnaaKM17
import Derived.Test.YtimfbnojmdnlnaaKM18
import Derived.Test.YtimfbnojmdnlnaaKSbL
set_option linter.all false
set_option maxRecDepth 100000
namespace Go.Proofs.Ytimfbnojmdnlnaa
namespace AM
namespace Wp
@[go_sem] theorem len_Shape (x:Shape):(encShape x).length=2:=_root_.id rfl
@[go_sem] theorem strip_Shape (x:Shape):(encShape x).map strip=encShape x:=by simp [encShape,strip_nk,strip_int]
@[go_sem] theorem low_Shape (x:Shape) (n:Nat):lowL n (encShape x)=true:=by simp [encShape,lowL,low]
@[go_sem] theorem all_Shape (x:Shape):cutV (encShape x) 0 2 true=some (.agg (encShape x)):=by rw [cutV_all (len_Shape x),strip_Shape]
@[go_sem] theorem f_Shape_0 (x:Shape):cutV (encShape x) 0 1 false=some (.slice (nk x.sizes.isEmpty) (x.sizes.map encI)):=by
 simp only [encShape,go_sem,simprocAttr,strip_nk]
@[go_sem] theorem f_Shape_1 (x:Shape):cutV (encShape x) 1 1 false=some (.int .i64 x.cells):=by
 simp only [encShape,go_sem,simprocAttr]
theorem zip_get {a b:List Int} {k:Nat} {x y:Int} (hx:a[k]?=some x) (hy:b[k]?=some y):(a.zip b)[k]?=some (x,y):=by
 rw [List.getElem?_zip_eq_some]; exact ⟨hx,hy⟩
@[go_sem] theorem mmO_max {k:IntKind} {a b:Int}:mmO true (.int k a) (.int k b)=some (.int k (imax a b)):=by simp [mmO,imax]
@[go_sem] theorem mmO_min {k:IntKind} {a b:Int}:mmO false (.int k a) (.int k b)=some (.int k (imin a b)):=by simp [mmO,imin]
theorem app_gr {α:Type} {enc:α→List V} {e n b:Nat} {k:SK} {l:List α} {x:α} (hn:(enc x).length=n) (h:l.length≤1000000000) (hb:b≤1000):appO e n b (grown e (l.map enc)) (.slice k [enc x])=some (grown e ((l++[x]).map enc)):=by
 rw [List.map_append]
 refine appO_grown (by simp [allLen,hn]) ?_ (by simp; omega)
 simp only [List.length_map,List.length_singleton]
 calc (l.length+1)*b≤(1000000000+1)*1000:=Nat.mul_le_mul (by omega) hb
  _≤_:=by decide
def shapesV (e:Int) (ps:List Int) (ar:List Arr):V:=if e=0 then .slice (nk (shapesOf ps ar).isEmpty) ((shapesOf ps ar).map encShape) else .slice .nil []
@[go_sem] theorem strip_shapesV {e:Int} {ps:List Int} {ar:List Arr}:strip (shapesV e ps ar)=shapesV e ps ar:=by
 unfold shapesV; split
 ·rw [strip_nk]
 ·rfl
@[go_sem] theorem cp_shapesV {e:Int} {ps:List Int} {ar:List Arr}:cp (shapesV e ps ar)=some (shapesV e ps ar):=by
 unfold shapesV; split
 ·rw [cp_nk]
 ·rfl
@[go_sem] theorem low_shapesV {e:Int} {ps:List Int} {ar:List Arr} {n:Nat}:low n (shapesV e ps ar)=true:=by
 unfold shapesV; split<;>rfl
@[go_sem] theorem tame_shapesV {e:Int} {ps:List Int} {ar:List Arr}:tame (shapesV e ps ar)=true:=by
 unfold shapesV; split<;>rfl
theorem shapesV_0 {ps:List Int} {ar:List Arr}:shapesV 0 ps ar=.slice (nk (shapesOf ps ar).isEmpty) ((shapesOf ps ar).map encShape):=rfl
theorem shapesV_n {e:Int} {ps:List Int} {ar:List Arr} (h:e≠0):shapesV e ps ar=.slice .nil []:=by simp [shapesV,h]
def okSz (p:Prg) (ps:List Int):Prop:=∀ a∈p.arrays, ∀ l∈a.sizes,l.c.length≤ps.length
theorem shapes_ok {p:Prg} (hp:OkPrg p) {b:Bool} {ps:List Int} (hz:okSz p ps) (hpl:ps.length≤LIM) (hal:p.arrays.length≤1000) (hsl:∀ a∈p.arrays,a.sizes.length≤1000) :
  Sp theEnv 95 [.agg (encPrg p), .slice (nk b) (ps.map encI)] (.tup [shapesV (shErr ps p.arrays) ps p.arrays, .int .i64 (shErr ps p.arrays)]):=by
 refine Sp.fn rfl rfl rfl sx (by intro n; simp only [go_sem,simprocAttr]) fun S=>?_
 simp only [a95,c95,go_sem,simprocAttr]
 refine Run_range p.arrays.length [1,19] [6,7] (fun k vs S'=>vs=[grown 191 ((shapesOf ps (p.arrays.take k)).map encShape), .int .i64 (totOf (shapesOf ps (p.arrays.take k)))]∧(p.arrays.take k).any (tooBig ps)=false∧∃ B,S'=⟨encPrg p::B,none⟩::S) hp.al sx sx rfl rfl rfl rfl sx ⟨by simp only [go_sem,simprocAttr,List.take_zero,shapesOf,List.map_nil,grown_nil,totOf,List.foldl_nil],rfl,_,rfl⟩ ?_ ?_
 ·rintro k F _ hk ⟨hv,hbig,B,rfl⟩ hi hkept
  simp only [go_sem,simprocAttr] at hkept hv
  obtain ⟨a,ha⟩:∃ a,p.arrays[k]?=some a:=⟨p.arrays[k],List.getElem?_eq_getElem hk⟩
  have hm:=List.mem_of_getElem? ha
  have hao:=hp.as a hm
  have hns:(sizesOf a ps).length=a.sizes.length:=by simp [sizesOf]
  have hsla:=hsl a hm
  simp only [go_sem,simprocAttr,hkept,hi,iaO_map ha]
  refine Run_range a.sizes.length [1,6,7,10,19,21,27] [] (fun k2 vs S'=>(∀ n∈(sizesOf a ps).take k2,n≤4096) ∧
   ∃ B2,S'=⟨encPrg p::(B++encArr a::[grown 3 (((sizesOf a ps).take k2).map encI), .int .i64 (((sizesOf a ps).take k2).foldl shStep 1)]::B2),none⟩::S) (Nat.le_trans hsla (by decide)) sx sx rfl rfl rfl rfl (by simp only [go_sem,simprocAttr,hkept,hv,hi]) ⟨by simp,_,rfl⟩ ?_ ?_
  ·rintro k2 F2 _ hk2 ⟨hle,B2,rfl⟩ hi2 hkept2
   simp only [go_sem,simprocAttr,hkept,hv,hi] at hkept2
   obtain ⟨l,hl⟩:∃ l,a.sizes[k2]?=some l:=⟨a.sizes[k2],List.getElem?_eq_getElem hk2⟩
   have hlm:=List.mem_of_getElem? hl
   have hlz:=hz a hm l hlm
   have hzl:(l.c.zip ps).length=l.c.length:=by rw [List.length_zip]; omega
   simp only [go_sem,simprocAttr,hkept2,hi2,iaO_map hl]
   refine Run_range l.c.length [1,6,7,10,19,21,27,29,36] [13] (fun k3 vs S'=>vs=[.int .i64 (((l.c.zip ps).take k3).foldl linStep l.k)] ∧
    ∃ B3,S'=⟨encPrg p::(B++encArr a::[grown 3 (((sizesOf a ps).take k2).map encI), .int .i64 (((sizesOf a ps).take k2).foldl shStep 1)]::B3),none⟩::S) (Nat.le_trans hlz (Nat.le_trans hpl (by decide))) sx sx rfl rfl rfl rfl (by simp only [go_sem,simprocAttr,hkept2,hi2]) ⟨by simp only [go_sem,simprocAttr,List.take_zero,List.foldl_nil],_,rfl⟩ ?_ ?_
   ·rintro k3 F3 _ hk3 ⟨hv3,B3,rfl⟩ hi3 hkept3
    simp only [go_sem,simprocAttr,hkept2] at hkept3 hv3
    obtain ⟨x,hx⟩:∃ x,l.c[k3]?=some x:=⟨l.c[k3],List.getElem?_eq_getElem hk3⟩
    obtain ⟨y,hy⟩:∃ y,ps[k3]?=some y:=⟨ps[k3]'(by omega),List.getElem?_eq_getElem (by omega)⟩
    simp only [go_sem,simprocAttr,hkept3,hi3,hv3,iaO_map hx,iaO_map hy,foldl_snoc (zip_get hx hy),linStep,wi]
    exact ⟨_,rfl⟩
   ·rintro F3 _ ⟨hv3,B3,rfl⟩ hkept3
    simp only [go_sem,simprocAttr,hkept2,hi2] at hkept3 hv3
    have hat:((l.c.zip ps).take l.c.length).foldl linStep l.k=linAt l ps:=by
     rw [← hzl,List.take_length]; rfl
    rw [hat] at hv3
    have hsz:(sizesOf a ps)[k2]?=some (linAt l ps):=by simp [sizesOf,hl]
    have hxs:(((sizesOf a ps).take k2).map encI).length≤1000000000:=by simp; omega
    simp only [go_sem,simprocAttr,hkept3,hv3,Run_if]
    split
    ·rename_i hb
     intro _
     have hany:p.arrays.any (tooBig ps)=true:=List.any_eq_true.2 ⟨a,hm,List.any_eq_true.2 ⟨l,hlm,by simpa using hb⟩⟩
     simp only [shErr,hany,if_true]
     rfl
    ·rename_i hb
     rw [foldl_snoc hsz,take_snoc' hsz,List.map_append]
     revert hxs
     generalize (((sizesOf a ps).take k2).foldl shStep 1)=c0
     generalize hX:((sizesOf a ps).take k2).map encI=xs
     intro hxs
     have hle':∀ n∈(sizesOf a ps).take k2++[linAt l ps],n≤4096:=by
      intro n hn
      rcases List.mem_append.1 hn with h | h
      ·exact hle n h
      ·simp at h; omega
     cases xs with
     | nil=>simp only [go_sem,simprocAttr,hkept3,hv3,encI,shStep,wi]; exact ⟨hle',_,rfl⟩
     | cons c xs=>simp only [go_sem,simprocAttr,hkept3,hv3,encI,app1 (n:=1) (y:=[V.int .i64 (linAt l ps)]) rfl hxs,shStep,wi]; exact ⟨hle',_,rfl⟩
  ·rintro F2 _ ⟨hle,B2,rfl⟩ hkept2
   rw [← hns,List.take_length] at *
   simp only [go_sem,simprocAttr,hkept,hv,hi] at hkept2
   simp only [go_sem,simprocAttr,hkept2]
   refine Run_range (sizesOf a ps).length [1,6,7,10,19,21,69] [] (fun k2 vs S'=>∃ B2,S'=⟨encPrg p::(B++encArr a::[grown 3 ((sizesOf a ps).map encI), .int .i64 (if ((sizesOf a ps).take k2).any (fun n=>decide (n < 1))=true then 0 else (sizesOf a ps).foldl shStep 1)]::B2),none⟩::S) (by rw [hns]; exact Nat.le_trans hsla (by decide)) sx sx rfl rfl rfl rfl (by simp only [go_sem,simprocAttr,hkept2,hv,hi]) ⟨_,rfl⟩ ?_ ?_
   ·rintro k3 F3 _ hk3 ⟨B3,rfl⟩ hi3 hkept3
    simp only [go_sem,simprocAttr,hkept2] at hkept3
    obtain ⟨n,hn⟩:∃ n,(sizesOf a ps)[k3]?=some n:=⟨(sizesOf a ps)[k3],List.getElem?_eq_getElem hk3⟩
    simp only [go_sem,simprocAttr,hkept3,hi3,iaO_map hn,Run_if]
    have hany:((sizesOf a ps).take (k3+1)).any (fun n=>decide (n < 1))=(((sizesOf a ps).take k3).any (fun n=>decide (n < 1))||decide (n < 1)):=by
     rw [take_snoc' hn,List.any_append]; simp
    rw [hany]
    split
    ·rename_i h; simp only [h,decide_true,Bool.or_true,if_true]; exact ⟨_,rfl⟩
    ·rename_i h; simp only [h,decide_false,Bool.or_false]; exact ⟨_,rfl⟩
   ·rintro F3 _ ⟨B3,rfl⟩ hkept3
    rw [List.take_length,show (if ((sizesOf a ps).any fun n=>decide (n < 1))=true then (0:Int) else (sizesOf a ps).foldl shStep 1)=shCells (sizesOf a ps) from rfl]
    simp only [go_sem,simprocAttr,hkept2] at hkept3
    have f:cutV [grown 3 ((sizesOf a ps).map encI),V.int .i64 (shCells (sizesOf a ps))] 0 2 true=some (.agg (encShape (shapeOf ps a))):=by
     simp [cutV,cutL,ofCells,strip_grown,strip_int,encShape,shapeOf]
    have g:=app_gr (enc:=encShape) (e:=191) (n:=2) (b:=32) (k:=.own 191) (l:=shapesOf ps (p.arrays.take k)) (x:=shapeOf ps a) rfl (by simp [shapesOf]; omega) (by decide)
    have h1:shapesOf ps (p.arrays.take (k+1))=shapesOf ps (p.arrays.take k)++[shapeOf ps a]:=by
     rw [take_snoc' ha]; simp [shapesOf]
    have h2:totOf (shapesOf ps (p.arrays.take (k+1)))=wi (totOf (shapesOf ps (p.arrays.take k))+shCells (sizesOf a ps)):=by
     rw [h1]; simp [totOf,shapeOf]
    have h3:(p.arrays.take (k+1)).any (tooBig ps)=false:=by
     rw [take_snoc' ha,List.any_append,hbig,Bool.false_or]
     simp only [List.any_cons,List.any_nil,Bool.or_false,tooBig,List.any_eq_false,decide_eq_true_eq]
     intro l hl
     have:=hle (linAt l ps) (List.mem_map_of_mem hl)
     omega
    rw [h3]
    rw [h2]
    simp only [go_sem,simprocAttr,hkept3,f,g,h1,wi]
 ·rintro F _ ⟨hv,hbig,B,rfl⟩ hkept
  simp only [go_sem,simprocAttr] at hkept hv
  rw [List.take_length] at hv hbig
  simp only [go_sem,simprocAttr,hkept,hv,Run_if]
  have he:shErr ps p.arrays=if totOf (shapesOf ps p.arrays) > 4096 then 3 else 0:=by simp [shErr,hbig]
  rw [he]
  split
  ·rename_i h
   rw [shapesV_n (by decide)]
  ·rename_i h
   rw [shapesV_0,List.isEmpty_map]
def askErr (p:Prg) (ps:List Int):Int :=
 if chkPrg p=true then (if ps.length≠p.params.length then 2 else if ps.any (fun n=>decide (n < 0)||decide (1000 < n))=true then 6 else shErr ps p.arrays) else 1
theorem asked_sz {p:Prg} {ps:List Int} (hc:chkPrg p=true) (hl:ps.length=p.params.length):okSz p ps∧p.arrays.length≤1000∧(∀ a∈p.arrays,a.sizes.length≤1000):=by
 have h:=chk_head hc
 refine ⟨fun a ha l hm=>?_,by omega,fun a ha=>?_⟩
 ·have:=(h.2.2 a ha).2 l hm; omega
 ·have:=(h.2.2 a ha).1; omega
theorem asked_ok {p:Prg} (hp:OkPrg p) {b:Bool} {ps:List Int} (hpl:ps.length≤LIM) :
  Sp theEnv 61 [.agg (encPrg p), .slice (nk b) (ps.map encI)] (.tup [shapesV (askErr p ps) ps p.arrays, .int .i64 (askErr p ps)]):=by
 refine Sp.fn rfl rfl rfl sx (by intro n; simp only [go_sem,simprocAttr]) fun S=>?_
 simp only [a61,c61,go_sem,simprocAttr,(check_ok hp).call]
 by_cases hc:chkPrg p=true
 ·simp only [hc,go_sem,simprocAttr]
  rw [Run_if]
  simp only [go_sem,simprocAttr]
  by_cases hl:ps.length=p.params.length
  ·have hs:=asked_sz hc hl
   have he:askErr p ps=if ps.any (fun n=>decide (n < 0)||decide (1000 < n))=true then 6 else shErr ps p.arrays:=by simp [askErr,hc,hl]
   rw [he]
   simp only [hl,go_sem,simprocAttr]
   refine Run_range ps.length [1,2,20] [] (fun k vs S'=>(ps.take k).any (fun n=>decide (n < 0)||decide (1000 < n))=false∧S'=⟨[encPrg p],none⟩::S) (Nat.le_trans hpl (by decide)) sx (by simp only [go_sem,simprocAttr,hl]) rfl rfl rfl rfl sx ⟨rfl,rfl⟩ ?_ ?_
   ·rintro k F _ hk ⟨hv,rfl⟩ hi hkept
    simp only [go_sem,simprocAttr] at hkept
    obtain ⟨x,hx⟩:∃ x,ps[k]?=some x:=⟨ps[k],List.getElem?_eq_getElem hk⟩
    have hm:=List.mem_of_getElem? hx
    simp only [go_sem,simprocAttr,hkept,hi,iaO_map hx,Run_if]
    split
    ·rename_i hb
     have hany:ps.any (fun n=>decide (n < 0)||decide (1000 < n))=true:=List.any_eq_true.2 ⟨x,hm,hb⟩
     rw [hany]; rfl
    ·rename_i hb
     rw [take_snoc' hx,List.any_append,hv]
     simpa using hb
   ·rintro F _ ⟨hv,rfl⟩ hkept
    simp only [go_sem,simprocAttr] at hkept
    rw [List.take_length] at hv
    simp only [go_sem,simprocAttr,hkept,hv,(shapes_ok hp hs.1 hpl hs.2.1 hs.2.2).call]
  ·have hl':¬ ((ps.length:Int)=(p.params.length:Int)):=by omega
   have he:askErr p ps=2:=by simp [askErr,hc,hl]
   rw [he]
   simp only [hl,go_sem,simprocAttr,if_false]
   rfl
 ·have he:askErr p ps=1:=by simp [askErr,hc]
  simp only [hc,he,go_sem,simprocAttr,Bool.false_eq_true,if_false]
  rfl
end Wp
end AM
end Go.Proofs.Ytimfbnojmdnlnaa
