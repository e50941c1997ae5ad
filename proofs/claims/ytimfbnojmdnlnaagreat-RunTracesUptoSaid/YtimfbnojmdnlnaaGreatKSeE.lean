/- The reference's Value, sizes and asked. -/
import Derived.Test.YtimfbnojmdnlnaaGreatKSeD
import Derived.Test.YtimfbnojmdnlnaaGreatKSbMb
set_option linter.all false
set_option maxRecDepth 100000
namespace Go.Proofs.YtimfbnojmdnlnaaGreat
namespace AM
namespace Wp
theorem value_ok {l:Lin} (hl:OkLin l) {b:Bool} {ps:List Int} (hz:l.c.length≤ps.length) (hpl:ps.length≤LIM):Sp theEnv 141 [.agg (encLin l), .slice (nk b) (ps.map encI)] (.int .i64 (linAt l ps)):=by
 have hzl:(l.c.zip ps).length=l.c.length:=by rw [List.length_zip]; omega
 refine Sp.fn rfl rfl rfl sx sy fun S=>?_; simp only [a141,c141,go_sem,simprocAttr]
 refine Run_range l.c.length [1,2] [5] (fun k vs S'=>vs=[.int .i64 (((l.c.zip ps).take k).foldl linStep l.k)]∧S'=⟨[encLin l],none⟩::S) (Nat.le_trans hz (Nat.le_trans hpl (by decide))) sx sx rfl rfl rfl rfl sx ⟨by simp only [go_sem,simprocAttr,List.take_zero,List.foldl_nil],rfl⟩ ?_ ?_
 ·rintro k F _ hk ⟨hv,rfl⟩ hi hkept
  simp only [go_sem,simprocAttr] at hkept hv
  obtain ⟨x,hx⟩:∃ x,l.c[k]?=some x:=⟨l.c[k],List.getElem?_eq_getElem hk⟩
  obtain ⟨y,hy⟩:∃ y,ps[k]?=some y:=⟨ps[k]'(by omega),List.getElem?_eq_getElem (by omega)⟩
  simp only [go_sem,simprocAttr,hkept,hi,hv,iaO_map hx,iaO_map hy,foldl_snoc (zip_get hx hy),linStep,wi]
 ·rintro F _ ⟨hv,rfl⟩ hkept
  simp only [go_sem,simprocAttr] at hkept hv
  have hat:((l.c.zip ps).take l.c.length).foldl linStep l.k=linAt l ps:=by
   rw [← hzl,List.take_length]; rfl
  rw [hat] at hv
  simp only [go_sem,simprocAttr,hkept,hv]
def encRow (l:List Int):List V:=[.slice (nk l.isEmpty) (l.map encI)]
def rowsOf (ps:List Int) (ar:List Arr):List (List Int):=ar.map fun a=>sizesOf a ps
def eFlag (c:Bool):Int:=if c=true then 3 else 0
def rErr0 (ps:List Int) (ar:List Arr):Int:=eFlag (ar.any (tooBig ps))
theorem big_any {ps:List Int} {a:Arr}:tooBig ps a=(sizesOf a ps).any fun n=>decide (n > 4096):=by
 simp only [tooBig,sizesOf,List.any_map]; rfl
theorem sizes_ok {p:Prg} (hp:OkPrg p) {b:Bool} {ps:List Int} (hz:okSz p ps) (hpl:ps.length≤LIM) (hal:p.arrays.length≤1000) (hsl:∀ a∈p.arrays,a.sizes.length≤1000) :
  Sp theEnv 107 [.agg (encPrg p), .slice (nk b) (ps.map encI)] (.tup [.slice (nk (rowsOf ps p.arrays).isEmpty) ((rowsOf ps p.arrays).map encRow), .slice (nk (rcOf ps p.arrays).isEmpty) ((rcOf ps p.arrays).map encI), .int .i64 (rcErr ps p.arrays)]):=by
 refine Sp.fn rfl rfl rfl sx (by intro n; simp only [go_sem,simprocAttr]) fun S=>?_
 simp only [a107,c107,go_sem,simprocAttr]
 refine Run_range p.arrays.length [1,18] [4,5,6,7] (fun k vs S'=>vs=[grown 27 ((rowsOf ps (p.arrays.take k)).map encRow),grown 3 ((rcOf ps (p.arrays.take k)).map encI), .int .i64 (rErr0 ps (p.arrays.take k)), .int .i64 (rsum (rcOf ps (p.arrays.take k)))]∧∃ B,S'=⟨encPrg p::B,none⟩::S) hp.al sx sx rfl rfl rfl rfl sx ⟨by simp only [go_sem,simprocAttr,List.take_zero,rowsOf,rcOf,rErr0,rsum,List.any_nil,eFlag,Bool.false_eq_true,if_false,List.map_nil,grown_nil,List.foldl_nil],_,rfl⟩ ?_ ?_
 ·rintro k F _ hk ⟨hv,B,rfl⟩ hi hkept
  simp only [go_sem,simprocAttr] at hkept hv
  obtain ⟨a,ha⟩:∃ a,p.arrays[k]?=some a:=⟨p.arrays[k],List.getElem?_eq_getElem hk⟩
  have hm:=List.mem_of_getElem? ha
  have hao:=hp.as a hm
  have hns:(sizesOf a ps).length=a.sizes.length:=by simp [sizesOf]
  have hsla:=hsl a hm
  simp only [go_sem,simprocAttr,hkept,hi,iaO_map ha]
  refine Run_range a.sizes.length [1,4,5,7,10,18,20,25] [6,11] (fun k2 vs S'=>vs=[.int .i64 (eFlag ((p.arrays.take k).any (tooBig ps)||((sizesOf a ps).take k2).any (fun n=>decide (n > 4096)))),grown 3 (((sizesOf a ps).take k2).map encI)] ∧
   ∃ B2,S'=⟨encPrg p::(B++encArr a::B2),none⟩::S) (Nat.le_trans hsla (by decide)) sx sx rfl rfl rfl rfl (by simp only [go_sem,simprocAttr,hkept,hv,hi]) ⟨by simp only [go_sem,simprocAttr,hv,List.take_zero,List.any_nil,Bool.or_false,List.map_nil,grown_nil,rErr0],_,rfl⟩ ?_ ?_
  ·rintro k2 F2 _ hk2 ⟨hv2,B2,rfl⟩ hi2 hkept2
   simp only [go_sem,simprocAttr,hkept,hv,hi] at hkept2 hv2
   obtain ⟨l,hl⟩:∃ l,a.sizes[k2]?=some l:=⟨a.sizes[k2],List.getElem?_eq_getElem hk2⟩
   have hlm:=List.mem_of_getElem? hl
   have hlz:=hz a hm l hlm
   have hsz:(sizesOf a ps)[k2]?=some (linAt l ps):=by simp [sizesOf,hl]
   have g:=app_gr (enc:=encI) (e:=3) (n:=1) (b:=8) (k:=.own 3) (l:=(sizesOf a ps).take k2) (x:=linAt l ps) rfl (by simp; omega) (by decide)
   simp only [encI] at g
   have hany:((sizesOf a ps).take (k2+1)).any (fun n=>decide (n > 4096))=(((sizesOf a ps).take k2).any (fun n=>decide (n > 4096))||decide (4096 < linAt l ps)):=by
    rw [take_snoc' hsz,List.any_append]; simp
   rw [hany,take_snoc' hsz]
   simp only [go_sem,simprocAttr,hkept2,hv2,hi2,iaO_map hl,(value_ok (hao.s l hlm) hlz hpl).call,Run_if,g]
   split
   ·rename_i h; simp only [h,decide_true,Bool.or_true]; first | done | exact ⟨rfl,_,rfl⟩
   ·rename_i h; simp only [h,decide_false,Bool.or_false]; exact ⟨trivial,_,rfl⟩
  ·rintro F2 _ ⟨hv2,B2,rfl⟩ hkept2
   rw [← hns,List.take_length] at *
   simp only [go_sem,simprocAttr,hkept,hv,hi] at hkept2 hv2
   simp only [go_sem,simprocAttr,hkept2,hv2]
   refine Run_range (sizesOf a ps).length [1,4,5,6,7,11,18,20,41] [10] (fun k3 vs S'=>vs=[.int .i64 (((sizesOf a ps).take k3).foldl rcStep 1)]∧∃ B3,S'=⟨encPrg p::B3,none⟩::S) (by rw [hns]; exact Nat.le_trans hsla (by decide)) sx sx rfl rfl rfl rfl (by simp only [go_sem,simprocAttr,hkept2,hv2,hv,hi]) ⟨by simp only [go_sem,simprocAttr,hkept2,List.take_zero,List.foldl_nil],_,rfl⟩ ?_ ?_
   ·rintro k3 F3 _ hk3 ⟨hv3,B3,rfl⟩ hi3 hkept3
    simp only [go_sem,simprocAttr,hkept2,hv2] at hkept3 hv3
    obtain ⟨n,hn⟩:∃ n,(sizesOf a ps)[k3]?=some n:=⟨(sizesOf a ps)[k3],List.getElem?_eq_getElem hk3⟩
    simp only [go_sem,simprocAttr,hkept3,hi3,hv3,iaO_map hn,foldl_snoc hn,rcStep,wi]
   ·rintro F3 _ ⟨hv3,B3,rfl⟩ hkept3
    rw [List.take_length,show (sizesOf a ps).foldl rcStep 1=rcCells (sizesOf a ps) from rfl] at hv3
    simp only [go_sem,simprocAttr,hkept2,hv2] at hkept3 hv3
    have h1:rowsOf ps (p.arrays.take (k+1))=rowsOf ps (p.arrays.take k)++[sizesOf a ps]:=by
     rw [take_snoc' ha]; simp [rowsOf]
    have h2:rcOf ps (p.arrays.take (k+1))=rcOf ps (p.arrays.take k)++[rcCells (sizesOf a ps)]:=by
     rw [take_snoc' ha]; simp [rcOf]
    have h3:rsum (rcOf ps (p.arrays.take (k+1)))=wi (rsum (rcOf ps (p.arrays.take k))+imin (rcCells (sizesOf a ps)) 4097):=by
     rw [h2]; simp [rsum]
    have h4:rErr0 ps (p.arrays.take (k+1))=eFlag ((p.arrays.take k).any (tooBig ps)||(sizesOf a ps).any (fun n=>decide (n > 4096))):=by
     rw [rErr0,take_snoc' ha,List.any_append]; simp [big_any]
    have g1:=app_gr (enc:=encRow) (e:=27) (n:=1) (b:=24) (k:=.own 27) (l:=rowsOf ps (p.arrays.take k)) (x:=sizesOf a ps) rfl (by simp [rowsOf]; omega) (by decide)
    have g2:=app_gr (enc:=encI) (e:=3) (n:=1) (b:=8) (k:=.own 3) (l:=rcOf ps (p.arrays.take k)) (x:=rcCells (sizesOf a ps)) rfl (by simp [rcOf]; omega) (by decide)
    rw [show encRow (sizesOf a ps)=[V.slice (nk ((sizesOf a ps).map encI).isEmpty) ((sizesOf a ps).map encI)] from by rw [List.isEmpty_map]; rfl] at g1
    rw [show encI (rcCells (sizesOf a ps))=[V.int .i64 (rcCells (sizesOf a ps))] from rfl] at g2
    rw [h3,h4,h1,h2]
    simp only [go_sem,simprocAttr,hkept3,hv3,g1,g2,wi]
 ·rintro F _ ⟨hv,B,rfl⟩ hkept
  simp only [go_sem,simprocAttr] at hkept hv
  rw [List.take_length] at hv
  simp only [go_sem,simprocAttr,hkept,hv,Run_if,List.isEmpty_map]
  have he:rcErr ps p.arrays=if 4096 < rsum (rcOf ps p.arrays) then 3 else rErr0 ps p.arrays:=rfl
  rw [he]
  split
  ·rfl
  ·rfl
def raskErr (p:Prg) (ps:List Int):Int :=
 if refPrg p=true then (if ps.length≠p.params.length then 2 else if ps.any (fun n=>decide (n < 0)||decide (1000 < n))=true then 6 else rcErr ps p.arrays) else 1
def raskIn (p:Prg) (ps:List Int):Bool:=refPrg p&&decide (ps.length=p.params.length)&&!ps.any (fun n=>decide (n < 0)||decide (1000 < n))
def rowsV (c:Bool) (l:List (List Int)):V:=if c=true then .slice (nk l.isEmpty) (l.map encRow) else .slice .nil []
def intsV (c:Bool) (l:List Int):V:=if c=true then .slice (nk l.isEmpty) (l.map encI) else .slice .nil []
theorem rasked_ok {p:Prg} (hp:OkPrg p) (hm:∀ s∈p.body,SmS s) {b:Bool} {ps:List Int} (hpl:ps.length≤LIM) :
  Sp theEnv 68 [.agg (encPrg p), .slice (nk b) (ps.map encI)] (.tup [rowsV (raskIn p ps) (rowsOf ps p.arrays),intsV (raskIn p ps) (rcOf ps p.arrays), .int .i64 (raskErr p ps)]):=by
 refine Sp.fn rfl rfl rfl sx (by intro n; unfold rowsV intsV; split<;>simp only [go_sem,simprocAttr]) fun S=>?_
 simp only [a68,c68,go_sem,simprocAttr,(refcheck_ok hp hm).call]
 by_cases hr:refPrg p=true
 ·have hc:chkPrg p=true:=by rw [prg_agree]; exact hr
  simp only [hr,go_sem,simprocAttr]
  rw [Run_if]
  simp only [go_sem,simprocAttr]
  by_cases hl:ps.length=p.params.length
  ·have hs:=asked_sz hc hl
   have he:raskErr p ps=if ps.any (fun n=>decide (n < 0)||decide (1000 < n))=true then 6 else rcErr ps p.arrays:=by simp [raskErr,hr,hl]
   have hin:raskIn p ps=!ps.any (fun n=>decide (n < 0)||decide (1000 < n)):=by simp [raskIn,hr,hl]
   rw [he,hin]
   simp only [hl,go_sem,simprocAttr]
   refine Run_range ps.length [1,2,21] [] (fun k vs S'=>(ps.take k).any (fun n=>decide (n < 0)||decide (1000 < n))=false∧S'=⟨[encPrg p],none⟩::S) (Nat.le_trans hpl (by decide)) sx (by simp only [go_sem,simprocAttr,hl]) rfl rfl rfl rfl sx ⟨rfl,rfl⟩ ?_ ?_
   ·rintro k F _ hk ⟨hv,rfl⟩ hi hkept
    simp only [go_sem,simprocAttr] at hkept
    obtain ⟨x,hx⟩:∃ x,ps[k]?=some x:=⟨ps[k],List.getElem?_eq_getElem hk⟩
    have hm:=List.mem_of_getElem? hx
    simp only [go_sem,simprocAttr,hkept,hi,iaO_map hx,Run_if]
    split
    ·rename_i hb
     have hany:ps.any (fun n=>decide (n < 0)||decide (1000 < n))=true:=List.any_eq_true.2 ⟨x,hm,hb⟩
     rw [hany]; rfl
    ·rename_i hb
     rw [take_snoc' hx,List.any_append,hv]
     simpa using hb
   ·rintro F _ ⟨hv,rfl⟩ hkept
    simp only [go_sem,simprocAttr] at hkept
    rw [List.take_length] at hv
    simp only [go_sem,simprocAttr,hkept,hv,(sizes_ok hp hs.1 hpl hs.2.1 hs.2.2).call,Bool.not_false,rowsV,intsV]
  ·have hl':¬ ((ps.length:Int)=(p.params.length:Int)):=by omega
   have he:raskErr p ps=2:=by simp [raskErr,hr,hl]
   have hin:raskIn p ps=false:=by simp [raskIn,hl]
   rw [he,hin]
   simp only [hl,go_sem,simprocAttr,if_false]
   rfl
 ·have he:raskErr p ps=1:=by simp [raskErr,hr]
  have hin:raskIn p ps=false:=by simp [raskIn,hr]
  simp only [hr,he,hin,go_sem,simprocAttr,Bool.false_eq_true,if_false]
  rfl
theorem ask_same (p:Prg) (ps:List Int):raskErr p ps=askErr p ps:=by
 unfold raskErr askErr
 rw [← prg_agree]
 by_cases hc:chkPrg p=true
 ·rw [err_same hc]
 ·simp [hc]
theorem ask_in {p:Prg} {ps:List Int} (h:askErr p ps=0):chkPrg p=true∧ps.length=p.params.length∧raskIn p ps=true∧shErr ps p.arrays=0∧∀ n∈ps,0≤n∧n≤1000:=by
 unfold askErr at h
 split at h
 ·rename_i hc
  split at h
  ·cases h
  ·rename_i hl
   split at h
   ·cases h
   ·rename_i ha
    have hl':ps.length=p.params.length:=by omega
    refine ⟨hc,hl',?_,h,fun n hn=>?_⟩
    ·simp only [raskIn, ← prg_agree,hc,hl',decide_true,Bool.true_and]
     simpa using ha
    ·simp only [List.any_eq_true,not_exists,not_and] at ha
     have:=ha n hn
     simp only [Bool.or_eq_true,decide_eq_true_eq] at this
     omega
 ·cases h
end Wp
end AM
end Go.Proofs.YtimfbnojmdnlnaaGreat
