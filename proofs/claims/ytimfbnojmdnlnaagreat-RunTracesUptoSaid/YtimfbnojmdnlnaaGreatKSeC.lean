/- The arrays of a program with parameters: their sizes and cells, both sides, in plain words. -/
import Derived.Test.YtimfbnojmdnlnaaGreatKM17
set_option linter.all false
set_option maxRecDepth 100000
namespace Go.Proofs.YtimfbnojmdnlnaaGreat
namespace AM
namespace Wp
def wi (x:Int):Int:=IntKind.i64.wrap x
theorem wi_id {x:Int} (h1:-9223372036854775808≤x) (h2:x≤9223372036854775807):wi x=x:=wrap64 h1 h2
def linStep (n:Int) (p:Int×Int):Int:=wi (n+wi (p.1*p.2))
def linAt (l:Lin) (x:List Int):Int:=(l.c.zip x).foldl linStep l.k
structure Shape where
 sizes:List Int
 cells:Int
def imin (a b:Int):Int:=if b < a then b else a
def imax (a b:Int):Int:=if b > a then b else a
def encShape (x:Shape):List V:=[.slice (nk x.sizes.isEmpty) (x.sizes.map encI), .int .i64 x.cells]
def shStep (c n:Int):Int:=imin (wi (c*imax n 0)) 4097
def shCells (ns:List Int):Int:=if ns.any (fun n=>decide (n < 1)) then 0 else ns.foldl shStep 1
def sizesOf (a:Arr) (ps:List Int):List Int:=a.sizes.map fun l=>linAt l ps
def shapeOf (ps:List Int) (a:Arr):Shape:=⟨sizesOf a ps,shCells (sizesOf a ps)⟩
def shapesOf (ps:List Int) (ar:List Arr):List Shape:=ar.map (shapeOf ps)
def totOf (l:List Shape):Int:=l.foldl (fun t s=>wi (t+s.cells)) 0
def tooBig (ps:List Int) (a:Arr):Bool:=a.sizes.any fun l=>decide (linAt l ps > 4096)
def shErr (ps:List Int) (ar:List Arr):Int:=if ar.any (tooBig ps) then 3 else if totOf (shapesOf ps ar) > 4096 then 3 else 0
def rcStep (c n:Int):Int:=wi (c*imax (imin n 4096) 0)
def rcCells (ns:List Int):Int:=ns.foldl rcStep 1
def rcOf (ps:List Int) (ar:List Arr):List Int:=ar.map fun a=>rcCells (sizesOf a ps)
def rsum (l:List Int):Int:=l.foldl (fun t n=>wi (t+imin n 4097)) 0
def rcErr (ps:List Int) (ar:List Arr):Int:=if rsum (rcOf ps ar) > 4096 then 3 else if ar.any (tooBig ps) then 3 else 0
theorem cells_pos:∀ (ns:List Int) (P c:Int) (B:Nat),(∀ n∈ns,1≤n∧n≤4096)→0≤P→P*4096 ^ ns.length≤68719476736→c=imin P 4097→ns.foldl shStep c=imin (ns.foldl rcStep P) 4097∧0≤ns.foldl rcStep P∧ns.foldl rcStep P≤68719476736
 | [],P,c,B,_,h0,h1,hc=>⟨hc,h0,by simpa using h1⟩
 | n::ns,P,c,B,hn,h0,h1,hc=>by
  have hn1:=hn n (by simp)
  simp only [List.foldl_cons]
  have e1:imax n 0=n:=by unfold imax; split<;>omega
  have e2:imax (imin n 4096) 0=n:=by unfold imax imin; split<;>split<;>omega
  have hp:(1:Int)≤4096 ^ ns.length:=by
   have:(0:Int) < 4096 ^ ns.length:=Int.pow_pos (by decide)
   omega
  have hP:P*n≤P*4096:=Int.mul_le_mul_of_nonneg_left hn1.2 h0
  have hP0:0≤P*n:=Int.mul_nonneg h0 (by omega)
  have h2:P*n*4096 ^ ns.length≤68719476736:=by
   have:P*n*4096 ^ ns.length≤P*4096*4096 ^ ns.length:=Int.mul_le_mul_of_nonneg_right hP (by omega)
   have e:P*4096*4096 ^ ns.length=P*4096 ^ (n::ns).length:=by
    rw [List.length_cons,Int.pow_succ,Int.mul_assoc,Int.mul_comm 4096]
   omega
  have h3:P*n≤68719476736:=by
   have:P*n*1≤P*n*4096 ^ ns.length:=Int.mul_le_mul_of_nonneg_left hp hP0
   omega
  have s1:rcStep P n=P*n:=by
   unfold rcStep; rw [e2]; exact wi_id (by omega) (by omega)
  have s2:shStep c n=imin (P*n) 4097:=by
   have hc0:0≤c∧c≤4097:=by subst hc; unfold imin; split<;>omega
   have hcn:c*n≤4097*n:=Int.mul_le_mul_of_nonneg_right hc0.2 (by omega)
   have hcn0:0≤c*n:=Int.mul_nonneg hc0.1 (by omega)
   unfold shStep
   rw [e1,wi_id (by omega) (by omega)]
   subst hc
   by_cases hle:P≤4097
   ·have:imin P 4097=P:=by unfold imin; split<;>omega
    rw [this]
   ·have hm:imin P 4097=4097:=by unfold imin; split<;>omega
    rw [hm]
    have h5:4097*n≤P*n:=Int.mul_le_mul_of_nonneg_right (by omega) (by omega)
    unfold imin
    split<;>split<;>omega
  rw [s1,s2]
  exact cells_pos ns (P*n) _ B (fun m hm=>hn m (List.mem_cons_of_mem _ hm)) hP0 h2 rfl
theorem rc_zero:∀ (ns:List Int),ns.foldl rcStep 0=0
 | []=>rfl
 | n::ns=>by
  have:rcStep 0 n=0:=by unfold rcStep; rw [Int.zero_mul]; rfl
  rw [List.foldl_cons,this,rc_zero ns]
theorem rc_any:∀ (ns:List Int) (P:Int),ns.any (fun n=>decide (n < 1))=true→ns.foldl rcStep P=0
 | [],_,h=>by simp at h
 | n::ns,P,h=>by
  rw [List.foldl_cons]
  by_cases hn:n < 1
  ·have:rcStep P n=0:=by
    have e:imax (imin n 4096) 0=0:=by unfold imax imin; split<;>split<;>omega
    unfold rcStep; rw [e,Int.mul_zero]; rfl
   rw [this,rc_zero]
  ·simp only [List.any_cons,hn,decide_false,Bool.false_or] at h
   exact rc_any ns _ h
theorem cells_same {ns:List Int} (hl:ns.length≤3) (hb:∀ n∈ns,n≤4096):shCells ns=imin (rcCells ns) 4097∧0≤rcCells ns∧rcCells ns≤68719476736:=by
 unfold shCells rcCells
 split
 ·rename_i h
  rw [rc_any ns 1 h]
  exact ⟨rfl,by decide,by decide⟩
 ·rename_i h
  have h1:∀ n∈ns,1≤n∧n≤4096:=by
   intro n hn
   refine ⟨?_,hb n hn⟩
   simp only [List.any_eq_true,not_exists,not_and,decide_eq_true_eq] at h
   have:=h n hn
   omega
  refine cells_pos ns 1 1 0 h1 (by decide) ?_ rfl
  rw [Int.one_mul]
  have:ns.length=0∨ns.length=1∨ns.length=2∨ns.length=3:=by omega
  rcases this with h | h | h | h<;>rw [h]<;>decide
theorem hArr_mem {n:Int}:∀ {ar:List Arr} {acc:List ByteArray},hArr n acc ar=true→∀ a∈ar,a.sizes.length≤3∧a.sizes.all (vOverL n)=true
 | [],_,_,a,h=>by simp at h
 | b::ar,acc,h,a,ha=>by
  simp only [hArr,Bool.and_eq_true,decide_eq_true_eq] at h
  rcases List.mem_cons.1 ha with rfl | ha
  ·exact ⟨by omega,h.1.2⟩
  ·exact hArr_mem h.2 a ha
theorem chk_head {p:Prg} (h:chkPrg p=true):p.params.length≤2∧p.arrays.length≤8∧∀ a∈p.arrays,a.sizes.length≤3∧∀ l∈a.sizes,l.c.length=p.params.length:=by
 simp only [chkPrg,vHead,Bool.and_eq_true,decide_eq_true_eq] at h
 refine ⟨by omega,by omega,fun a ha=>?_⟩
 have h1:=hArr_mem h.1.2 a ha
 refine ⟨h1.1,fun l hl=>?_⟩
 have h2:=List.all_eq_true.1 h1.2 l hl
 unfold vOverL at h2
 simp only [Bool.and_eq_true,decide_eq_true_eq] at h2
 omega
theorem sum_same {ps:List Int}:∀ {ar:List Arr} {t:Int},(∀ a∈ar,a.sizes.length≤3)→ar.any (tooBig ps)=false→(shapesOf ps ar).foldl (fun t s=>wi (t+s.cells)) t=(rcOf ps ar).foldl (fun t n=>wi (t+imin n 4097)) t
 | [],_,_,_=>rfl
 | a::ar,t,h,hb=>by
  simp only [List.any_cons,Bool.or_eq_false_iff] at hb
  have h1:∀ n∈sizesOf a ps,n≤4096:=by
   intro n hn
   obtain ⟨l,hl,rfl⟩:=List.mem_map.1 hn
   have:=hb.1
   simp only [tooBig,List.any_eq_false,decide_eq_true_eq] at this
   have:=this l hl
   omega
  have h2:=cells_same (by simpa [sizesOf] using h a (by simp)) h1
  simp only [shapesOf,rcOf,List.map_cons,List.foldl_cons,shapeOf]
  rw [h2.1]
  exact sum_same (fun b hb=>h b (List.mem_cons_of_mem _ hb)) hb.2
theorem err_same {p:Prg} (hc:chkPrg p=true) (ps:List Int):shErr ps p.arrays=rcErr ps p.arrays:=by
 have hh:=(chk_head hc).2.2
 unfold shErr rcErr
 by_cases hb:p.arrays.any (tooBig ps)=true
 ·simp [hb]
 ·have:=sum_same (t:=0) (fun a ha=>(hh a ha).1) (by simpa using hb)
  have e:totOf (shapesOf ps p.arrays)=rsum (rcOf ps p.arrays):=this
  simp [hb,e]
theorem tot_le:∀ (l:List Int) (t:Int),0≤t→t+l.length*4097≤1000000→(∀ n∈l,0≤n∧n≤4097)→l.foldl (fun t n=>wi (t+n)) t ≥ t∧∀ n∈l,t+n≤l.foldl (fun t n=>wi (t+n)) t
 | [],t,_,_,_=>⟨Int.le_refl _,by simp⟩
 | n::l,t,h0,h1,h=>by
  have hn:=h n (by simp)
  simp only [List.length_cons] at h1
  rw [List.foldl_cons,wi_id (by omega) (by omega)]
  have ih:=tot_le l (t+n) (by omega) (by omega) fun m hm=>h m (List.mem_cons_of_mem _ hm)
  refine ⟨by omega,fun m hm=>?_⟩
  rcases List.mem_cons.1 hm with rfl | hm
  ·exact ih.1
  ·have:=ih.2 m hm
   omega
theorem cells_agree {p:Prg} (hc:chkPrg p=true) {ps:List Int} (he:shErr ps p.arrays=0):(shapesOf ps p.arrays).map (·.cells)=rcOf ps p.arrays∧∀ n∈rcOf ps p.arrays,0≤n∧n≤4096:=by
 have hh:=chk_head hc
 unfold shErr at he
 split at he
 ·cases he
 ·rename_i hb
  have hs:∀ a∈p.arrays,shCells (sizesOf a ps)=imin (rcCells (sizesOf a ps)) 4097∧0≤rcCells (sizesOf a ps):=by
   intro a ha
   have h1:∀ n∈sizesOf a ps,n≤4096:=by
    intro n hn
    obtain ⟨l,hl,rfl⟩:=List.mem_map.1 hn
    simp only [List.any_eq_true,not_exists,not_and] at hb
    have:=hb a ha
    simp only [tooBig,List.any_eq_true,not_exists,not_and,decide_eq_true_eq] at this
    have:=this l hl
    omega
   have h2:=cells_same (by simpa [sizesOf] using (hh.2.2 a ha).1) h1
   exact ⟨h2.1,h2.2.1⟩
  have ht:=tot_le ((shapesOf ps p.arrays).map (·.cells)) 0 (by decide) (by simp [shapesOf]; omega) (by
   intro n hn
   simp only [shapesOf,List.map_map,List.mem_map,Function.comp_apply,shapeOf] at hn
   obtain ⟨a,ha,rfl⟩:=hn
   have:=hs a ha
   rw [this.1]
   unfold imin
   split<;>omega)
  have e:((shapesOf ps p.arrays).map (·.cells)).foldl (fun t n=>wi (t+n)) 0=totOf (shapesOf ps p.arrays):=by
   rw [List.foldl_map]; rfl
  rw [e] at ht
  have hle:totOf (shapesOf ps p.arrays)≤4096:=by
   split at he
   ·cases he
   ·omega
  have key:∀ a∈p.arrays,(shapeOf ps a).cells=rcCells (sizesOf a ps)∧rcCells (sizesOf a ps)≤4096:=by
   intro a ha
   have h1:=hs a ha
   have h2:=ht.2 ((shapeOf ps a).cells) (by simp only [shapesOf,List.map_map,List.mem_map,Function.comp_apply]; exact ⟨a,ha,rfl⟩)
   have h3:(shapeOf ps a).cells=imin (rcCells (sizesOf a ps)) 4097:=h1.1
   have h0:=ht.1
   rw [h3] at h2
   have hlt:rcCells (sizesOf a ps)≤4096:=by
    unfold imin at h2
    split at h2<;>omega
   refine ⟨?_,hlt⟩
   rw [h3]
   unfold imin
   rw [if_neg (by omega)]
  refine ⟨?_,?_⟩
  ·simp only [shapesOf,rcOf,List.map_map]
   exact List.map_congr_left fun a ha=>(key a ha).1
  ·intro n hn
   simp only [rcOf,List.mem_map] at hn
   obtain ⟨a,ha,rfl⟩:=hn
   exact ⟨(hs a ha).2,(key a ha).2⟩
end Wp
end AM
end Go.Proofs.YtimfbnojmdnlnaaGreat
