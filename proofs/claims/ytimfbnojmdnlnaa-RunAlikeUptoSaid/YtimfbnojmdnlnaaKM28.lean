/- Rows of numbers in boxes of a level, and how they are read out; The machine of run: its boxes; calm states; a call in a free block that is handed pointers. -/
import Derived.Test.YtimfbnojmdnlnaaKSeE
import Derived.Test.YtimfbnojmdnlnaaKM26
import Derived.Test.YtimfbnojmdnlnaaKWpF
set_option linter.all false
set_option maxRecDepth 100000
section
namespace Go.Proofs.Ytimfbnojmdnlnaa
namespace AM
namespace Wp
def ints (r:List Int):List V:=r.map (V.int .i64)
theorem ints_flat (r:List Int):(r.map encI).flatten=ints r:=by
 induction r with
 | nil=>rfl
 | cons x r ih=>simp only [List.map_cons,List.flatten_cons,ih,ints]; rfl
theorem dz_def {cs:List V} (h:∀ c∈cs,isUndef c=false):dz (some cs)=some cs:=by
 cases cs with
 | nil=>rfl
 | cons c cs =>
  have:=h c (by simp)
  simp [dz,this]
@[go_sem] theorem dz_ints (r:List Int):dz (some (ints r))=some (ints r):=dz_def fun c hc=>by
 simp only [ints,List.mem_map] at hc
 obtain ⟨x,_,rfl⟩:=hc
 rfl
theorem ints_len (r:List Int):(ints r).length=r.length:=by simp [ints]
inductive RowsIn (o L:Nat) (B:List (List V)):List V→List (List Int)→Prop
 | nil:RowsIn o L B [] []
 | cons {cs:List V} {r:List Int} {rs:List (List Int)} (i:Nat) (h:B[i]?=some (ints r)) (hs:RowsIn o L B cs rs):RowsIn o L B (.bsl L (i+o) 0 r.length 1 3::cs) (r::rs)
namespace RowsIn
variable {o L:Nat} {B C:List (List V)} {cs:List V} {rs:List (List Int)}
theorem len (h:RowsIn o L B cs rs):cs.length=rs.length:=by induction h with | nil=>rfl | cons i h hs ih=>simp [ih]
theorem mono (h:RowsIn o L B cs rs):RowsIn o L (B++C) cs rs:=by
 induction h with
 | nil=>exact .nil
 | cons i h hs ih =>
  refine .cons i ?_ ih
  rw [List.getElem?_append_left (List.getElem?_eq_some_iff.1 h).1]; exact h
theorem snoc {i:Nat} {r:List Int} (h:RowsIn o L B cs rs) (hi:B[i]?=some (ints r)):RowsIn o L B (cs++[.bsl L (i+o) 0 r.length 1 3]) (rs++[r]):=by
 induction h with
 | nil=>exact .cons i hi .nil
 | cons j hj hs ih=>exact .cons j hj ih
theorem isBsl (h:RowsIn o L B cs rs):∀ c∈cs, ∃ l i p n m e,c=V.bsl l i p n m e:=by
 induction h with
 | nil=>intro c hc; simp at hc
 | cons j hj hs ih =>
  intro c hc
  rcases List.mem_cons.1 hc with rfl | hc
  ·exact ⟨_,_,_,_,_,_,rfl⟩
  ·exact ih c hc
theorem undef (h:RowsIn o L B cs rs):∀ c∈cs,isUndef c=false:=by
 intro c hc
 obtain ⟨_,_,_,_,_,_,rfl⟩:=h.isBsl c hc
 rfl
theorem set {j:Nat} {ds X:List V} {es:List (List Int)} (h:RowsIn o L B cs rs) (hd:RowsIn o L B ds es) (hn:ds≠[]) (hj:B[j]?=some ds):RowsIn o L (B.set j X) cs rs:=by
 induction h with
 | nil=>exact .nil
 | @cons cs r rs i hi hs ih =>
  refine .cons i ?_ ih
  rw [List.getElem?_set_ne,hi]
  rintro rfl
  rw [hi] at hj
  cases hd with
  | nil=>exact hn rfl
  | cons k hk hs' =>
   cases r with
   | nil=>simp [ints] at hj
   | cons x r=>simp [ints] at hj
theorem low (h:RowsIn o L B cs rs):∀ {n:Nat},L < n→lowL n cs=true:=by
 intro n hn
 induction h with
 | nil=>rfl
 | cons i hi hs ih=>simp only [lowL,AM.low,ih,hn,decide_true,Bool.and_self]
theorem strip (h:RowsIn o L B cs rs):cs.map AM.strip=cs:=by
 induction h with
 | nil=>rfl
 | cons i hi hs ih=>simp only [List.map_cons,ih,AM.strip]
theorem own (h:RowsIn o L B cs rs):noOwn cs=true:=by
 induction h with
 | nil=>rfl
 | cons i hi hs ih=>simp only [noOwn,List.all_cons,Bool.true_and] at ih ⊢; exact ih
theorem frz {S:St} {lo k:Nat} (hl:lo≤L) (h:RowsIn o L B cs rs) (hb:∀ (i:Nat) (r:List Int),B[i]?=some (ints r)→getBox S L (i+o)=some (ints r)) :
  cs.mapM (AM.frz S lo (k+2))=some (rs.map fun r=>V.slice .shut (r.map encI)):=by
 induction h with
 | nil=>rfl
 | @cons cs r rs i hi hs ih =>
  have h1:AM.frz S lo (k+2) (.bsl L (i+o) 0 (r.map encI).length 1 3)=some (.slice .shut (r.map encI)):=frz_rows hl (by rw [ints_flat]; exact hb i r hi) (by decide) (fun x hx=>by
    simp only [List.mem_map] at hx
    obtain ⟨y,_,rfl⟩:=hx
    rfl) (fun c hc=>by
    rw [ints_flat] at hc
    simp only [ints,List.mem_map] at hc
    obtain ⟨y,_,rfl⟩:=hc
    exact ⟨rfl,rfl,rfl⟩)
  rw [List.length_map] at h1
  rw [List.mapM_cons,h1,ih]
  rfl
end RowsIn
theorem chunk_one:∀ (cs:List V),chunk 1 cs.length cs=cs.map fun c=>[c]:=by
 intro cs
 apply List.ext_getElem?
 intro j
 simp only [chunk,Nat.mul_one]
 rw [List.getElem?_map,List.getElem?_map]
 rcases Nat.lt_or_ge j cs.length with hj | hj
 ·rw [List.getElem?_range hj,List.getElem?_eq_getElem hj]
  simp only [Option.map_some]
  rw [← List.getElem_cons_drop hj]
  rfl
 ·rw [List.getElem?_eq_none (by simpa using hj),List.getElem?_eq_none hj]; rfl
def freshV (s:Int) (a k:Nat):Int:=wi ((wi (wi (s+wi (7919*(a:Int)))+wi (104729*(k:Int)))).tmod 2001 - 1000)
def freshRow (s:Int) (a n:Nat):List Int:=(List.range n).map (freshV s a)
def freshFrom (s:Int):Nat→List Int→List (List Int)
 | _,[]=>[]
 | a,n::l=>freshRow s a n.toNat::freshFrom s (a+1) l
def partRow (s:Int) (a n k:Nat):List Int:=(List.range n).map fun j=>if j < k then freshV s a j else 0
theorem ints_setAt {r:List Int} {k:Nat} {x:Int} (hk:k < r.length):setAt (ints r) k [.int .i64 x]=ints (r.set k x):=by
 simp only [setAt,ints,List.length_singleton,List.map_set]
 rw [List.set_eq_take_append_cons_drop,if_pos (by simpa using hk)]
 simp
end Wp
end AM
end Go.Proofs.Ytimfbnojmdnlnaa
end
section
namespace Go.Proofs.Ytimfbnojmdnlnaa
namespace AM
namespace Wp
mutual
def good:V→Bool
 | .look _=>false
 | .fresh _=>false
 | .mir ..=>false
 | .slice _ xs=>goodR xs
 | .func f cs=>(match f with | .func _=>true | _=>false)&&goodL cs
 | .ifc _ v=>good v
 | .agg cs=>goodL cs
 | .tup cs=>goodL cs
 | _=>true
def goodL:List V→Bool
 | []=>true
 | v::vs=>good v&&goodL vs
def goodR:List (List V)→Bool
 | []=>true
 | r::rs=>goodL r&&goodR rs
end
mutual
theorem eqV_good:∀ v:V,good v=true→eqV v v=true
 | .look _,h=>by simp [good] at h
 | .fresh _,h=>by simp [good] at h
 | .mir ..,h=>by simp [good] at h
 | .slice k xs,h=>by
  simp only [good] at h
  simp only [eqV,eqR_good xs h,Bool.and_true]
  cases k<;>simp
 | .func f cs,h=>by
  simp only [good,Bool.and_eq_true] at h
  cases f with
  | func n=>simp [eqV,eqL_good cs h.2]
  | _=>simp at h
 | .ifc t v,h=>by simp only [good] at h; simp [eqV,eqV_good v h]
 | .agg cs,h=>by simp only [good] at h; simp [eqV,eqL_good cs h]
 | .tup cs,h=>by simp only [good] at h; simp [eqV,eqL_good cs h]
 | .undef,_=>rfl
 | .bool b,_=>by simp [eqV]
 | .int k n,_=>by simp [eqV]
 | .str s,_=>by simp [eqV]
 | .ptr l i o,_=>by simp [eqV]
 | .nilp,_=>rfl
 | .nilf,_=>rfl
 | .nili,_=>rfl
 | .bsl l i o n m e,_=>by simp [eqV]
theorem eqL_good:∀ vs:List V,goodL vs=true→eqL vs vs=true
 | [],_=>rfl
 | v::vs,h=>by
  simp only [goodL,Bool.and_eq_true] at h
  simp [eqL,eqV_good v h.1,eqL_good vs h.2]
theorem eqR_good:∀ rs:List (List V),goodR rs=true→eqR rs rs=true
 | [],_=>rfl
 | r::rs,h=>by
  simp only [goodR,Bool.and_eq_true] at h
  simp [eqR,eqL_good r h.1,eqR_good rs h.2]
end
def calmC (cs:List V):Bool:=goodL cs&&noOwn cs
def calmB (B:List (List V)):Bool:=B.all calmC
def calmS (S:St):Bool:=S.all fun T=>T.lp.isNone&&calmB T.bs
@[go_sem] theorem calmS_cons {B:List (List V)} {S:St}:calmS (⟨B,none⟩::S)=(calmB B&&calmS S):=_root_.id rfl
@[go_sem] theorem calmS_nil:calmS []=true:=_root_.id rfl
@[go_sem] theorem calmB_nil:calmB []=true:=_root_.id rfl
@[go_sem] theorem calmB_cons {b:List V} {B:List (List V)}:calmB (b::B)=(calmC b&&calmB B):=_root_.id rfl
@[go_sem] theorem calmB_app {B C:List (List V)}:calmB (B++C)=(calmB B&&calmB C):=by simp [calmB]
@[go_sem] theorem calmC_nil:calmC []=true:=_root_.id rfl
theorem calmC_cons {c:V} {cs:List V}:calmC (c::cs)=(calmC [c]&&calmC cs):=by
 simp only [calmC,goodL,noOwn,List.all_cons,List.all_nil,Bool.and_true]
 cases good c<;>cases goodL cs<;>simp
@[go_sem] theorem calmC_int {k:IntKind} {n:Int} {cs:List V}:calmC (.int k n::cs)=calmC cs:=by rw [calmC_cons]; rfl
@[go_sem] theorem calmC_bool {b:Bool} {cs:List V}:calmC (.bool b::cs)=calmC cs:=by rw [calmC_cons]; rfl
@[go_sem] theorem calmC_ptr {l i o:Nat} {cs:List V}:calmC (.ptr l i o::cs)=calmC cs:=by rw [calmC_cons]; rfl
@[go_sem] theorem calmC_func {f:Nat} {ds cs:List V}:calmC (.func (.func f) ds::cs)=(goodL ds&&calmC cs):=by rw [calmC_cons]; simp [calmC,goodL,good,noOwn]
@[go_sem] theorem calmC_snil {cs:List V}:calmC (.slice .nil []::cs)=calmC cs:=by rw [calmC_cons]; rfl
@[go_sem] theorem calmC_slice {b:Bool} {xs:List (List V)} {cs:List V}:calmC (.slice (nk b) xs::cs)=(goodR xs&&calmC cs):=by rw [calmC_cons]; cases b<;>simp [calmC,goodL,good,noOwn,nk]
@[go_sem] theorem goodL_nil:goodL []=true:=_root_.id rfl
@[go_sem] theorem goodL_ptr {l i o:Nat} {cs:List V}:goodL (.ptr l i o::cs)=goodL cs:=_root_.id rfl
theorem calm_own:∀ {S:St},calmS S=true→ownFree S=true
 | [],_=>rfl
 | T::S,h=>by
  simp only [calmS,List.all_cons,Bool.and_eq_true] at h
  simp only [ownFree,List.all_cons,Bool.and_eq_true]
  refine ⟨?_,calm_own h.2⟩
  have:=h.1.2
  simp only [calmB,calmC,List.all_eq_true,Bool.and_eq_true] at this
  exact List.all_eq_true.2 fun b hb=>(this b hb).2
theorem calm_eqR:∀ {B:List (List V)},calmB B=true→eqR B B=true
 | [],_=>rfl
 | b::B,h=>by
  simp only [calmB,List.all_cons,calmC,Bool.and_eq_true] at h
  simp only [eqR,eqL_good b h.1.1,Bool.true_and]
  exact calm_eqR (by simpa only [calmB] using h.2)
theorem calm_eqS:∀ {S:St},calmS S=true→eqS S S=true
 | [],_=>rfl
 | T::S,h=>by
  simp only [calmS,List.all_cons,Bool.and_eq_true] at h
  simp only [eqS,h.1.1,calm_eqR h.1.2,calm_eqS (S:=S) h.2,Bool.and_self]
section
variable {E:Env} {ks:List KI} {F:Fr} {S R:St} {Q:Ex→Fr→St→Prop} {os all:List AOper} {bs:List Blk} {d:Option Nat}
theorem CallF {f:Nat} {args:List V} {v:V} (h:CallIs E (.fn f) args S (.ret v) S) (hl:lowL 0 args=false) (ht:tames args=true) (hc:calmS S=true) (hv:low 0 v=true):Call E f args d (.f all os bs) ks F S Q=Wk E (.f all os bs) ks (putO F d v) S Q:=by
 simp only [Call,callFK,hl,Bool.false_eq_true,if_false,ht,calm_own hc,true_and]
 rw [h.q]
 simp only [hv,calm_eqS hc,true_and]
theorem CallPQ {f:Nat} {args:List V} {P:Out→St→Prop} (h:CallQ E (.fn f) args S P) (hl:lowL 0 args=false) (ht:tames args=true) (hm:∀ o S',P o S'→backW F d (fun F S=>Wk E (.s bs) ks F S Q) (fun v S=>RunE E ks (.pan v) F S Q) o S'):Call E f args d (.s bs) ks F S Q:=by
 simp only [Call,callK,hl,Bool.false_eq_true,if_false,ht,true_and]
 exact h.mono hm
end
theorem goodR_map {α:Type} {enc:α→List V} {l:List α} (h:∀ x∈l,goodL (enc x)=true):goodR (l.map enc)=true:=by
 induction l with
 | nil=>rfl
 | cons x l ih =>
  simp only [List.map_cons,goodR,h x (by simp),Bool.true_and]
  exact ih fun y hy=>h y (List.mem_cons_of_mem _ hy)
theorem goodL_app {a b:List V}:goodL (a++b)=(goodL a&&goodL b):=by
 induction a with
 | nil=>simp [goodL]
 | cons x a ih=>simp only [List.cons_append,goodL,ih,Bool.and_assoc]
theorem good_I (x:Int):goodL (encI x)=true:=rfl
theorem good_S (x:ByteArray):goodL (encS x)=true:=rfl
theorem good_Lin (x:Lin):goodL (encLin x)=true:=by
 simp only [encLin,goodL,good,goodR_map fun y _=>good_I y,Bool.and_self]
theorem good_Ref (x:Ref):goodL (encRef x)=true:=by
 simp only [encRef,goodL,good,goodR_map fun y _=>good_Lin y,Bool.and_self]
theorem good_Exp:∀ x:Exp,goodL (encExp x)=true:=by
 refine Exp.ind fun x ih=>?_
 cases x
 simp only [encExp,goodL_app,good_Lin,good_Ref,goodL,good,encExps_map,goodR_map ih,Bool.and_self]
theorem good_Rw (x:Rw):goodL (encRw x)=true:=by simp only [encRw,goodL_app,good_Lin,goodL,good,Bool.and_self]
theorem good_Part (x:Part):goodL (encPart x)=true:=by simp only [encPart,goodL,good,goodR_map fun y _=>good_Rw y,Bool.and_self]
theorem good_Bound (x:Bound):goodL (encBound x)=true:=by simp only [encBound,goodL,good,goodR_map fun y _=>good_Part y,Bool.and_self]
theorem good_Cnd (x:Cnd):goodL (encCnd x)=true:=by cases x; simp only [encCnd,goodL_app,good_Lin,goodL,good,Bool.and_self]
theorem good_Piece (x:Piece):goodL (encPiece x)=true:=by simp only [encPiece,goodL,good,goodR_map fun y _=>good_Cnd y,Bool.and_self]
theorem good_PSet (x:PSet):goodL (encPSet x)=true:=by simp only [encPSet,goodL,good,goodR_map fun y _=>good_Piece y,Bool.and_self]
theorem good_Stm:∀ x:Stm,goodL (encStm x)=true:=by
 refine Stm.ind fun x ihb ihe=>?_
 cases x
 simp only [encStm,goodL_app,good_Bound,good_PSet,good_Ref,good_Exp,goodL,good,encStms_map,goodR_map ihb,goodR_map ihe,Bool.and_self]
theorem good_Arr (x:Arr):goodL (encArr x)=true:=by simp only [encArr,goodL,good,goodR_map fun y _=>good_Lin y,Bool.and_self]
theorem good_Prg (x:Prg):goodL (encPrg x)=true:=by
 simp only [encPrg,goodL,good,encStms_map,goodR_map fun y _=>good_S y,goodR_map fun y _=>good_Arr y,goodR_map fun y _=>good_Stm y,Bool.and_self]
theorem noOwn_strip:∀ {cs:List V},cs.map strip=cs→noOwn cs=true
 | [],_=>rfl
 | c::cs,h=>by
  simp only [List.map_cons,List.cons.injEq] at h
  have h2:=noOwn_strip h.2
  simp only [noOwn,List.all_cons,Bool.and_eq_true] at h2 ⊢
  refine ⟨?_,h2⟩
  have h1:=h.1
  cases c with
  | slice k xs=>cases k with
   | own e=>simp [strip] at h1
   | _=>rfl
  | _=>rfl
@[go_sem] theorem calmC_Exp (x:Exp):calmC (encExp x)=true:=by simp only [calmC,good_Exp,noOwn_strip (strip_Exp x),Bool.and_self]
@[go_sem] theorem calmC_Rw (x:Rw):calmC (encRw x)=true:=by simp only [calmC,good_Rw,noOwn_strip (strip_Rw x),Bool.and_self]
@[go_sem] theorem calmC_Bound (x:Bound):calmC (encBound x)=true:=by simp only [calmC,good_Bound,noOwn_strip (strip_Bound x),Bool.and_self]
@[go_sem] theorem calmC_Stm (x:Stm):calmC (encStm x)=true:=by simp only [calmC,good_Stm,noOwn_strip (strip_Stm x),Bool.and_self]
@[go_sem] theorem calmC_Prg (x:Prg):calmC (encPrg x)=true:=by simp only [calmC,good_Prg,noOwn_strip (strip_Prg x),Bool.and_self]
end Wp
end AM
end Go.Proofs.Ytimfbnojmdnlnaa
end
