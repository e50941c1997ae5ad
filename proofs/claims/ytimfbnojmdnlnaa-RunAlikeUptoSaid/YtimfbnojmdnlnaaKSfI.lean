/- set.Has. -/
import Derived.Test.YtimfbnojmdnlnaaKSfB
import Derived.Test.YtimfbnojmdnlnaaKSeD
set_option linter.all false
set_option maxRecDepth 100000
namespace Go.Proofs.Ytimfbnojmdnlnaa
namespace AM
namespace Wp
def farI (y:Int):Bool:=decide (y < -4294967296)||decide (4294967296 < y)
def badP (p:Int×Int):Bool:=!fits p.1||farI p.2
def dotV (l x:List Int):Int×Int:=if l.length≠x.length then (0,2) else if 12 < l.length then (0,3) else if (l.zip x).any badP then (0,6) else ((l.zip x).foldl linStep 0,0)
theorem dot_ok {b1 b2:Bool} {l x:List Int} (hl:l.length≤LIM):Sp theEnv 162 [.slice (nk b1) (l.map encI), .slice (nk b2) (x.map encI)] (.tup [.int .i64 (dotV l x).1, .int .i64 (dotV l x).2]):=by
 refine Sp.fn rfl rfl rfl sx sy fun S=>?_; simp only [a162,c162,go_sem,simprocAttr]
 rw [Run_if]
 simp only [go_sem,simprocAttr]
 by_cases h1:l.length=x.length
 ·simp only [h1,go_sem,simprocAttr]
  rw [Run_if]
  simp only [go_sem,simprocAttr]
  by_cases h2:12 < l.length
  ·have h2':(12:Int) < (x.length:Int):=by omega
   have hd:dotV l x=(0,3):=by simp [dotV,h1]; omega
   simp only [h2',go_sem,simprocAttr,hd]
  ·have h2':¬ (12:Int) < (x.length:Int):=by omega
   simp only [h2',go_sem,simprocAttr]
   have hzl:(l.zip x).length=l.length:=by rw [List.length_zip]; omega
   have hd:dotV l x=if (l.zip x).any badP then (0,6) else ((l.zip x).foldl linStep 0,0):=by simp [dotV,h1]; intro h; omega
   rw [hd]
   refine Run_range l.length [0,1] [6] (fun k vs S'=>vs=[.int .i64 (((l.zip x).take k).foldl linStep 0)]∧((l.zip x).take k).any badP=false∧S'=⟨[],none⟩::S) (Nat.le_trans hl (by decide)) sx (by simp only [go_sem,simprocAttr,h1]) rfl rfl rfl rfl sx ⟨by simp only [go_sem,simprocAttr,List.take_zero,List.foldl_nil],rfl,rfl⟩ ?_ ?_
   ·rintro k F _ hk ⟨hv,hb,rfl⟩ hi hkept
    simp only [go_sem,simprocAttr] at hkept hv
    obtain ⟨a,ha⟩:∃ a,l[k]?=some a:=⟨l[k],List.getElem?_eq_getElem hk⟩
    obtain ⟨y,hy⟩:∃ y,x[k]?=some y:=⟨x[k]'(by omega),List.getElem?_eq_getElem (by omega)⟩
    have hz:=zip_get ha hy
    have hany:((l.zip x).take (k+1)).any badP=badP (a,y):=by rw [take_snoc' hz,List.any_append,hb]; simp
    have hfull:badP (a,y)=true→(l.zip x).any badP=true:=fun h=>List.any_eq_true.2 ⟨_,List.mem_of_getElem? hz,h⟩
    simp only [go_sem,simprocAttr,hkept,hi,hv,iaO_map ha,iaO_map hy,(num_fits a).call,Run_if]
    rw [foldl_snoc hz,hany]
    have hbp:badP (a,y)=(!fits a||decide (y < -4294967296)||decide (4294967296 < y)):=by simp [badP,farI,Bool.or_assoc]
    rw [hbp] at hfull ⊢
    split
    ·rename_i h
     rw [hfull h]
     rfl
    ·rename_i h
     exact ⟨rfl,by simpa using h⟩
   ·rintro F _ ⟨hv,hb,rfl⟩ hkept
    simp only [go_sem,simprocAttr] at hkept hv
    rw [← hzl,List.take_length] at hv hb
    simp only [go_sem,simprocAttr,hkept,hv,hb]
 ·have h1':¬ ((l.length:Int)=(x.length:Int)):=by omega
  have hd:dotV l x=(0,2):=by simp [dotV,h1]
  simp only [h1,go_sem,simprocAttr,hd,if_false]
def linV (l:Lin) (x:List Int):Int×Int:=if vLin l=true then (if (dotV l.c x).2=0 then (wi (l.k+(dotV l.c x).1),0) else (0,(dotV l.c x).2)) else (0,1)
theorem linat_ok {l:Lin} (hl:OkLin l) {b:Bool} {x:List Int}:Sp theEnv 160 [.agg (encLin l), .slice (nk b) (x.map encI)] (.tup [.int .i64 (linV l x).1, .int .i64 (linV l x).2]):=by
 refine Sp.fn rfl rfl rfl sx sy fun S=>?_; simp only [a160,c160,go_sem,simprocAttr]
 simp only [(lin_valid l hl).call,go_sem,simprocAttr]
 rw [Run_if]
 simp only [go_sem,simprocAttr,linV]
 by_cases h:vLin l=true
 ·simp only [h,go_sem,simprocAttr,(dot_ok (b1:=l.n) (b2:=b) (l:=l.c) (x:=x) hl.c).call]
  rw [Run_if]
  simp only [go_sem,simprocAttr]
  by_cases h2:(dotV l.c x).2=0
  ·simp only [h2,go_sem,simprocAttr,wi]
  ·simp only [h2,go_sem,simprocAttr]
 ·simp only [h,go_sem,simprocAttr,Bool.not_false,if_false,Bool.false_eq_true]
def holdsV (c:Cnd) (x:List Int):Bool×Int :=
 if vCnd c=true then (if (linV c.l x).2=0 then (if c.kind=0 then (decide (0≤(linV c.l x).1),0) else if c.kind=1 then (decide ((linV c.l x).1=0),0) else (decide ((linV c.l x).1.tmod c.m=0),0)) else (false,(linV c.l x).2)) else (false,1)
theorem holds_ok {c:Cnd} (hc:OkCnd c) {b:Bool} {x:List Int}:Sp theEnv 147 [.agg (encCnd c), .slice (nk b) (x.map encI)] (.tup [.bool (holdsV c x).1, .int .i64 (holdsV c x).2]):=by
 refine Sp.fn rfl rfl rfl sx sy fun S=>?_; simp only [a147,c147,go_sem,simprocAttr]
 simp only [(cond_valid c hc).call,go_sem,simprocAttr]
 rw [Run_if]
 simp only [go_sem,simprocAttr,holdsV]
 by_cases h:vCnd c=true
 ·simp only [h,go_sem,simprocAttr,(linat_ok hc.l (b:=b) (x:=x)).call]
  rw [Run_if]
  simp only [go_sem,simprocAttr]
  by_cases h2:(linV c.l x).2=0
  ·simp only [h2,go_sem,simprocAttr]
   rw [Run_if]
   simp only [go_sem,simprocAttr]
   by_cases h3:c.kind=0
   ·simp only [h3,go_sem,simprocAttr]
   ·by_cases h4:c.kind=1
    ·simp only [h3,h4,go_sem,simprocAttr]
    ·have h5:c.m≠0:=by
      unfold vCnd at h
      rw [if_neg (by omega)] at h
      split at h
      ·simp only [Bool.and_eq_true,decide_eq_true_eq] at h; omega
      ·cases h
     simp only [h3,h4,go_sem,simprocAttr,bin_rem h5]
  ·simp only [h2,go_sem,simprocAttr]
 ·simp only [h,go_sem,simprocAttr,Bool.not_false,if_false,Bool.false_eq_true]
def idxF {α:Type} (f:α→Bool):Nat→List α→Int
 | _,[]=>-1
 | k,a::l=>if f a then (k:Int) else idxF f (k+1) l
theorem has11_run {S:St} {l i:Nat} {b:Bool} {x:List Int} {c:Cnd} (hc:OkCnd c) (hb:getBox S l i=some [.slice (nk b) (x.map encI)]) :
  CallIs theEnv (.fn 146) [.agg (encCnd c), .ptr l i 0] S (.ret (.bool (!(holdsV c x).1))) S:=by
 refine CallIs.fn rfl rfl rfl ?_
 have g1:=fun T=>getBox_up (T:=T) hb
 simp only [a146,c146,go_sem,simprocAttr,g1,strip_nk,(holds_ok hc (b:=b) (x:=x)).call]
theorem idxc_run {S:St} {l i:Nat} {b k:Bool} {x:List Int} {cs:List Cnd} (hl:cs.length≤LIM) (hc:∀ c∈cs,OkCnd c) (hb:getBox S l i=some [.slice (nk b) (x.map encI)]) :
  CallIs theEnv (.fn 158) [.slice (nk k) (cs.map encCnd), .func (.func 146) [.ptr l i 0]] S (.ret (.int .i64 (idxF (fun c=>!(holdsV c x).1) 0 cs))) S:=by
 refine CallIs.fn rfl rfl rfl ?_
 simp only [a158,c158,go_sem,simprocAttr]
 refine Run_range cs.length [0,1] [] (fun k vs S'=>idxF (fun c=>!(holdsV c x).1) k (cs.drop k)=idxF (fun c=>!(holdsV c x).1) 0 cs∧S'=⟨[],none⟩::S) (Nat.le_trans hl (by decide)) sx sx rfl rfl rfl rfl sx ⟨rfl,rfl⟩ ?_ ?_
 ·rintro k F _ hk ⟨hv,rfl⟩ hi hkept
  simp only [go_sem,simprocAttr] at hkept
  obtain ⟨y,hy⟩:∃ y,cs[k]?=some y:=⟨cs[k],List.getElem?_eq_getElem hk⟩
  rw [drop_at hy,idxF] at hv
  have hcall:=has11_run (S:=⟨[],none⟩::S) (hc y (List.mem_of_getElem? hy)) (getBox_up hb)
  simp only [go_sem,simprocAttr,hkept,hi,iaO_map hy]
  rw [CallvP (by exact hcall) rfl rfl]
  simp only [go_sem,simprocAttr]
  rw [Run_if]
  simp only [go_sem,simprocAttr]
  split
  ·rename_i h
   rw [if_pos (by simpa using h)] at hv
   simp only [go_sem,simprocAttr,hkept,hi,hv]
  ·rename_i h
   rw [if_neg (by simpa using h)] at hv
   exact hv
 ·rintro F _ ⟨hv,rfl⟩ hkept
  simp only [go_sem,simprocAttr] at hkept
  rw [List.drop_length,idxF] at hv
  simp only [go_sem,simprocAttr,hkept, ← hv]
def inPiece (x:List Int) (p:Piece):Bool:=!decide (0≤idxF (fun c=>!(holdsV c x).1) 0 p.conds)
theorem conc_run {S:St} {l i:Nat} {b k:Bool} {x:List Int} {cs:List Cnd} (hl:cs.length≤LIM) (hc:∀ c∈cs,OkCnd c) (hb:getBox S l i=some [.slice (nk b) (x.map encI)]) :
  CallIs theEnv (.fn 145) [.slice (nk k) (cs.map encCnd), .func (.func 146) [.ptr l i 0]] S (.ret (.bool (decide (0≤idxF (fun c=>!(holdsV c x).1) 0 cs)))) S:=by
 refine CallIs.fn rfl rfl rfl ?_
 simp only [a145,c145,go_sem,simprocAttr]
 rw [CallP (idxc_run (S:=⟨[],none⟩::S) hl hc (getBox_up hb)) (by simp only [go_sem,simprocAttr,Nat.not_lt_zero,decide_false,Bool.false_and,Bool.and_false]) rfl]
 simp only [go_sem,simprocAttr]
theorem has1_run {S:St} {l i:Nat} {b:Bool} {x:List Int} {p:Piece} (hp:OkPiece p) (hb:getBox S l i=some [.slice (nk b) (x.map encI)]) :
  CallIs theEnv (.fn 144) [.slice (nk p.n) (p.conds.map encCnd), .ptr l i 0] S (.ret (.bool (inPiece x p))) S:=by
 refine CallIs.fn rfl rfl rfl ?_
 simp only [a144,c144,go_sem,simprocAttr]
 rw [CallP (conc_run (S:=⟨[],none⟩::S) hp.l hp.s (getBox_up hb)) (by simp only [go_sem,simprocAttr,Nat.not_lt_zero,decide_false,Bool.false_and,Bool.and_false]) rfl]
 simp only [go_sem,simprocAttr,inPiece]
theorem idxp_run {S:St} {l i:Nat} {b k:Bool} {x:List Int} {cs:List Piece} (hl:cs.length≤LIM) (hc:∀ c∈cs,OkPiece c) (hb:getBox S l i=some [.slice (nk b) (x.map encI)]) :
  CallIs theEnv (.fn 157) [.slice (nk k) (cs.map encPiece), .func (.func 144) [.ptr l i 0]] S (.ret (.int .i64 (idxF (inPiece x) 0 cs))) S:=by
 refine CallIs.fn rfl rfl rfl ?_
 simp only [a157,c157,go_sem,simprocAttr]
 refine Run_range cs.length [0,1] [] (fun k vs S'=>idxF (inPiece x) k (cs.drop k)=idxF (inPiece x) 0 cs∧S'=⟨[],none⟩::S) (Nat.le_trans hl (by decide)) sx sx rfl rfl rfl rfl sx ⟨rfl,rfl⟩ ?_ ?_
 ·rintro k F _ hk ⟨hv,rfl⟩ hi hkept
  simp only [go_sem,simprocAttr] at hkept
  obtain ⟨y,hy⟩:∃ y,cs[k]?=some y:=⟨cs[k],List.getElem?_eq_getElem hk⟩
  rw [drop_at hy,idxF] at hv
  have hcall:=has1_run (S:=⟨[],none⟩::S) (hc y (List.mem_of_getElem? hy)) (getBox_up hb)
  simp only [go_sem,simprocAttr,hkept,hi,iaO_map hy]
  rw [CallvP (by exact hcall) (by simp only [List.cons_append,List.nil_append,List.map_cons,List.map_nil,strip_nk,strip_ptr]) rfl]
  simp only [go_sem,simprocAttr]
  rw [Run_if]
  simp only [go_sem,simprocAttr]
  split
  ·rename_i h
   rw [if_pos (by simpa using h)] at hv
   simp only [go_sem,simprocAttr,hkept,hi,hv]
  ·rename_i h
   rw [if_neg (by simpa using h)] at hv
   exact hv
 ·rintro F _ ⟨hv,rfl⟩ hkept
  simp only [go_sem,simprocAttr] at hkept
  rw [List.drop_length,idxF] at hv
  simp only [go_sem,simprocAttr,hkept, ← hv]
theorem conp_run {S:St} {l i:Nat} {b k:Bool} {x:List Int} {cs:List Piece} (hl:cs.length≤LIM) (hc:∀ c∈cs,OkPiece c) (hb:getBox S l i=some [.slice (nk b) (x.map encI)]) :
  CallIs theEnv (.fn 143) [.slice (nk k) (cs.map encPiece), .func (.func 144) [.ptr l i 0]] S (.ret (.bool (decide (0≤idxF (inPiece x) 0 cs)))) S:=by
 refine CallIs.fn rfl rfl rfl ?_
 simp only [a143,c143,go_sem,simprocAttr]
 rw [CallP (idxp_run (S:=⟨[],none⟩::S) hl hc (getBox_up hb)) (by simp only [go_sem,simprocAttr,Nat.not_lt_zero,decide_false,Bool.false_and,Bool.and_false]) rfl]
 simp only [go_sem,simprocAttr]
def hasV (t:PSet) (x:List Int):Bool×Int :=
 if vSet t=true then (if (x.length:Int)=t.dim then (if x.any farI=true then (false,6) else (decide (0≤idxF (inPiece x) 0 t.pieces),0)) else (false,2)) else (false,1)
theorem has_ok {t:PSet} (ht:OkPSet t) {b:Bool} {x:List Int} (hx:x.length≤LIM):Sp theEnv 123 [.agg (encPSet t), .slice (nk b) (x.map encI)] (.tup [.bool (hasV t x).1, .int .i64 (hasV t x).2]):=by
 refine Sp.fn rfl rfl rfl sx sy fun S=>?_; simp only [a123,c123,go_sem,simprocAttr]
 simp only [(set_valid t ht).call,go_sem,simprocAttr,hasV]
 rw [Run_if]
 simp only [go_sem,simprocAttr]
 by_cases h:vSet t=true
 ·simp only [h,go_sem,simprocAttr]
  rw [Run_if]
  simp only [go_sem,simprocAttr]
  by_cases h2:(x.length:Int)=t.dim
  ·simp only [h2,go_sem,simprocAttr]
   refine Run_all x (fun y=>!farI y) (fun S'=>S'=⟨[encPSet t,[.slice (nk b) (x.map encI)]],none⟩::S) [2,3,16] (Nat.le_trans hx (by decide)) sx (by simp only [go_sem,simprocAttr,h2]) rfl rfl rfl sx rfl ?_ ?_
   ·rintro k F _ y hy hm rfl hi hkept hno
    simp only [go_sem,simprocAttr] at hkept
    have hany:farI y=true→x.any farI=true:=fun h=>List.any_eq_true.2 ⟨y,hm,h⟩
    simp only [go_sem,simprocAttr,hkept,hi,iaO_map hy,Run_if]
    have hf:farI y=(decide (y < -4294967296)||decide (4294967296 < y)):=rfl
    rw [← hf]
    split
    ·rename_i h9
     rw [hany h9]
     rfl
    ·rename_i h9
     simpa using h9
   ·rintro F _ hall rfl hkept
    simp only [go_sem,simprocAttr] at hkept
    have hna:x.any farI=false:=by
     rw [List.any_eq_false]
     intro y hy
     have:=List.all_eq_true.1 hall y hy
     simpa using this
    simp only [go_sem,simprocAttr,hkept,hna]
    rw [CallP (conp_run (b:=b) (S:=⟨[encPSet t,[.slice (nk b) (x.map encI)]],none⟩::S) (l:=S.length) (i:=1) ht.l ht.s (by simp only [go_sem,simprocAttr]; cases b<;>rfl)) (by simp only [go_sem,simprocAttr,Nat.not_lt_zero,decide_false,Bool.false_and,Bool.and_false]) rfl]
    simp only [go_sem,simprocAttr]
  ·simp only [h2,go_sem,simprocAttr,if_false]
 ·simp only [h,go_sem,simprocAttr,Bool.not_false,if_false,Bool.false_eq_true]
end Wp
end AM
end Go.Proofs.Ytimfbnojmdnlnaa
