/- The ghost that ties the abstract machine's state to a world, and how it abides what happens; What ties a state of the abstract machine to a world, whole: the invariant, the frame, and what one step may turn; Operations that change no state: what the abstract machine says they yield, they yield; Operations that change no state, one by one; Operations that change no state, the rest; slice literals; Operations that change no state, all together; slice literals; Steps of the abstract machine that turn its state: what they leave; Slice literals; append; what is moved; Boxes: made, written, taken from; what is moved between temporaries; What is taken from a box and put into one; Calls: what a contract says, and what the caller's state is behind it; Boxes that a callee hands out become the caller's; Slices in boxes: made, grown, read out, frozen; Slices in boxes: made and grown; Slices in boxes: append; An operation among others in a row, whole. -/
import Derived.Test.YtimfbnojmdnlnaaKAmA
import Derived.RangeFuncRecord
import Derived.RangeFuncCalls
import Derived.OrdersIn
import Derived.Deep.AppendSrc
import Derived.Deep.MidRow
import Derived.Laws.OwnMore
import Derived.WalkKit
import Derived.Great.BuildSlice
set_option linter.all false
section
namespace Go.Proofs.Ytimfbnojmdnlnaa
namespace AM
inductive Loc where
 | tmp (t:Nat)
 | cell (l i j:Nat)
 | res
inductive Use where
 | free
 | box (l i:Nat)
 | row (c:Loc)
 | loop (l:Nat)
 | mark
structure Gh where
 G:Nat→Nat→Option Value
 bx:Nat→Nat→Nat
 lp:Nat→Nat
 use:Nat→Use
 al:Nat→Nat→Option (Nat×Nat)
def Uni (xs:List (List V)):Prop:=∃ m, ∀ r∈xs,r.length=m
mutual
def Rel (g:Gh) (d:Nat):V→Value→Prop
 | .undef,_=>True
 | .bool b,x=>x=.bool b
 | .int k n,x=>x=.int k n
 | .str s,x=>x=.string s
 | .ptr l i o,x=>l < d∧(∃ p,g.al l i=some p)∧x=.pointer (some ⟨g.bx l i,o,none⟩)
 | .nilp,x=>x=.pointer none
 | .look cs,x=>∃ b o,x=.pointer (some ⟨b,o,none⟩)∧AtG g b o cs
 | .slice k xs,x=>∃ a n c,x=.slice a n c∧n=xs.length∧n≤c∧Uni xs∧RowsG g a xs∧(xs≠[]→∀ ad,a=some ad→ad.spot=none)∧(match k with | .nil=>a=none∧c=0 | _=>a≠none)
 | .func f cs,x=>∃ f' cs',x=.func f' #[] ⟨cs'⟩∧RelL g d cs cs' ∧
   (match f with | .func k=>f'=.func k | .yield l=>cs=[]∧l+1 < d∧g.use (g.lp l)=.loop l∧f'=.yield (g.lp l) | _=>False)
 | .nilf,x=>x=.nilFunc
 | .ifc t v,x=>∃ y,x=.iface t y∧Rel g d v y
 | .nili,x=>x=.nilIface
 | .agg cs,x=>∃ vs,x=.agg ⟨vs⟩∧isCells cs=true∧RelL g d cs vs
 | .tup cs,x=>∃ vs,x=.tuple ⟨vs⟩∧RelL g d cs vs
 | .fresh cs,x=>∃ b,x=.pointer (some ⟨b,0,none⟩)
 | .mir _ _ _ _ xs,x=>∃ a n c,x=.slice a n c∧n=xs.length∧n≤c∧Uni xs∧RowsG g a xs∧(xs≠[]→∀ ad,a=some ad→ad.spot=none)∧a≠none
 | .bsl l i o n m e,x=>l < d∧∃ c,g.al l i=some (e,o+c*m)∧n≤c∧c≤maxLen∧x=.slice (some ⟨g.bx l i,o,none⟩) n c
def RelL (g:Gh) (d:Nat):List V→List Value→Prop
 | [],vs=>vs=[]
 | c::cs,vs=>∃ u us,vs=u::us∧Rel g d c u∧RelL g d cs us
def AtG (g:Gh) (b:Nat):Nat→List V→Prop
 | _,[]=>True
 | o,c::cs=>(∃ v,g.G b o=some v∧isCell c=true∧Rel g 0 c v)∧AtG g b (o+1) cs
def RowsG (g:Gh):Option Addr→List (List V)→Prop
 | _,[]=>True
 | some a,x::xs=>AtG g a.block a.off x∧RowsG g (some ⟨a.block,a.off+x.length,none⟩) xs
 | none,_::_=>False
end
structure Le (n:Nat) (g g':Gh):Prop where
 G:∀ b o v,g.G b o=some v→g'.G b o=some v
 bx:∀ l i p,l < n→g.al l i=some p→g'.bx l i=g.bx l i∧g'.al l i=some p
 lp:∀ l,l+1 < n→g.use (g.lp l)=.loop l→g'.lp l=g.lp l∧g'.use (g.lp l)=.loop l
theorem Le.refl (n:Nat) (g:Gh):Le n g g:=⟨fun _ _ _ h=>h,fun _ _ _ _ h=>⟨rfl,h⟩,fun _ _ h=>⟨rfl,h⟩⟩
theorem Le.trans {n:Nat} {a b c:Gh} (h:Le n a b) (k:Le n b c):Le n a c:={
 G x o v e:=k.G x o v (h.G x o v e)
 bx l i p hl e:=by
  obtain ⟨e1,u1⟩:=h.bx l i p hl e
  obtain ⟨e2,u2⟩:=k.bx l i p hl u1
  exact ⟨e2.trans e1,u2⟩
 lp l hl e:=by
  obtain ⟨e1,u1⟩:=h.lp l hl e
  obtain ⟨e2,u2⟩:=k.lp l hl (by rw [e1]; exact u1)
  exact ⟨e2.trans e1,by rw [← e1]; exact u2⟩ }
theorem Le.less {n m:Nat} {g g':Gh} (h:Le n g g') (hm:m≤n):Le m g g' :=
 ⟨h.G,fun l i p hl=>h.bx l i p (by omega),fun l hl=>h.lp l (by omega)⟩
mutual
theorem rel_mono {g g':Gh} {n m:Nat} (h:Le n g g') (hm:n≤m):∀ (v:V) (x:Value),Rel g n v x→Rel g' m v x
 | .undef,_,_=>by simp [Rel]
 | .bool _,_,r=>by simpa [Rel] using r
 | .int _ _,_,r=>by simpa [Rel] using r
 | .str _,_,r=>by simpa [Rel] using r
 | .ptr l i o,x,r=>by
  simp only [Rel] at r ⊢
  obtain ⟨hl,⟨p,hu⟩,hx⟩:=r
  obtain ⟨e1,e2⟩:=h.bx l i p hl hu
  exact ⟨by omega,⟨p,e2⟩,by rw [e1]; exact hx⟩
 | .nilp,_,r=>by simpa [Rel] using r
 | .look cs,x,r=>by
  simp only [Rel] at r ⊢
  obtain ⟨b,o,hx,hc⟩:=r
  exact ⟨b,o,hx,atG_mono (h.less (Nat.zero_le _)) b o cs hc⟩
 | .slice k xs,x,r=>by
  simp only [Rel] at r ⊢
  obtain ⟨a,n',c,hx,hn,hc,hun,hr,hs,hk⟩:=r
  exact ⟨a,n',c,hx,hn,hc,hun,rowsG_mono (h.less (Nat.zero_le _)) a xs hr,hs,hk⟩
 | .func f cs,x,r=>by
  simp only [Rel] at r ⊢
  obtain ⟨f',cs',hx,hc,hf⟩:=r
  refine ⟨f',cs',hx,relL_mono h hm cs cs' hc,?_⟩
  cases f with
  | func k=>exact hf
  | yield l =>
   obtain ⟨h0,hl,hu,hf⟩:=hf
   obtain ⟨e1,e2⟩:=h.lp l hl hu
   exact ⟨h0,by omega,by rw [e1]; exact e2,by rw [e1]; exact hf⟩
  | _=>exact hf
 | .nilf,_,r=>by simpa [Rel] using r
 | .ifc t v,x,r=>by
  simp only [Rel] at r ⊢
  obtain ⟨y,hx,hy⟩:=r
  exact ⟨y,hx,rel_mono h hm v y hy⟩
 | .nili,_,r=>by simpa [Rel] using r
 | .agg cs,x,r=>by
  simp only [Rel] at r ⊢
  obtain ⟨vs,hx,hi,hv⟩:=r
  exact ⟨vs,hx,hi,relL_mono h hm cs vs hv⟩
 | .tup cs,x,r=>by
  simp only [Rel] at r ⊢
  obtain ⟨vs,hx,hv⟩:=r
  exact ⟨vs,hx,relL_mono h hm cs vs hv⟩
 | .fresh cs,x,r=>by simpa [Rel] using r
 | .mir l i o e xs,x,r=>by
  simp only [Rel] at r ⊢
  obtain ⟨a,n',c,hx,hn,hc,hun,hr,hs⟩:=r
  exact ⟨a,n',c,hx,hn,hc,hun,rowsG_mono (h.less (Nat.zero_le _)) a xs hr,hs⟩
 | .bsl l i o k m e,x,r=>by
  simp only [Rel] at r ⊢
  obtain ⟨hl,c,ha,hn,hc,hx⟩:=r
  obtain ⟨e1,e2⟩:=h.bx l i _ hl ha
  exact ⟨by omega,c,e2,hn,hc,by rw [e1]; exact hx⟩
theorem relL_mono {g g':Gh} {n m:Nat} (h:Le n g g') (hm:n≤m):∀ (vs:List V) (xs:List Value),RelL g n vs xs→RelL g' m vs xs
 | [],_,r=>by simpa [RelL] using r
 | c::cs,xs,r=>by
  simp only [RelL] at r ⊢
  obtain ⟨u,us,hx,hc,hs⟩:=r
  exact ⟨u,us,hx,rel_mono h hm c u hc,relL_mono h hm cs us hs⟩
theorem atG_mono {g g':Gh} (h:Le 0 g g') (b:Nat):∀ (o:Nat) (cs:List V),AtG g b o cs→AtG g' b o cs
 | _,[],_=>by simp [AtG]
 | o,c::cs,r=>by
  simp only [AtG] at r ⊢
  obtain ⟨⟨v,hv,hi,hc⟩,hr⟩:=r
  exact ⟨⟨v,h.G _ _ _ hv,hi,rel_mono h (Nat.le_refl _) c v hc⟩,atG_mono h b (o+1) cs hr⟩
theorem rowsG_mono {g g':Gh} (h:Le 0 g g'):∀ (a:Option Addr) (xs:List (List V)),RowsG g a xs→RowsG g' a xs
 | _,[],_=>by simp [RowsG]
 | some a,x::xs,r=>by
  simp only [RowsG] at r ⊢
  exact ⟨atG_mono h _ _ x r.1,rowsG_mono h _ xs r.2⟩
 | none,_::_,r=>by simp [RowsG] at r
end
theorem relL_iff {g:Gh} {d:Nat}:∀ {vs:List V} {xs:List Value},RelL g d vs xs ↔ vs.length=xs.length∧∀ (j:Nat) (v:V) (x:Value),vs[j]?=some v→xs[j]?=some x→Rel g d v x
 | [],xs=>by
  simp only [RelL]
  constructor
  ·rintro rfl; simp
  ·rintro ⟨h,_⟩; exact List.eq_nil_of_length_eq_zero h.symm
 | c::cs,xs=>by
  simp only [RelL]
  constructor
  ·rintro ⟨u,us,rfl,hc,hr⟩
   obtain ⟨hl,hj⟩:=relL_iff.1 hr
   refine ⟨by simp [hl],fun j v x hv hx=>?_⟩
   cases j with
   | zero=>simp at hv hx; subst hv; subst hx; exact hc
   | succ j=>exact hj j v x (by simpa using hv) (by simpa using hx)
  ·rintro ⟨hl,hj⟩
   cases xs with
   | nil=>simp at hl
   | cons u us=>exact ⟨u,us,rfl,hj 0 c u rfl rfl,relL_iff.2 ⟨by simpa using hl,fun j v x hv hx=>hj (j+1) v x (by simpa using hv) (by simpa using hx)⟩⟩
theorem relL_length {g:Gh} {d:Nat} {vs:List V} {xs:List Value} (h:RelL g d vs xs):vs.length=xs.length:=(relL_iff.1 h).1
theorem relL_at {g:Gh} {d:Nat} {vs:List V} {xs:List Value} (h:RelL g d vs xs) {j:Nat} {v:V} (hv:vs[j]?=some v):∃ x,xs[j]?=some x∧Rel g d v x:=by
 have hl:=relL_length h
 have hj:=(List.getElem?_eq_some_iff.1 hv).1
 refine ⟨xs[j]'(by omega),List.getElem?_eq_getElem _,(relL_iff.1 h).2 j v _ hv (List.getElem?_eq_getElem _)⟩
theorem relL_append {g:Gh} {d:Nat} {vs ws:List V} {xs ys:List Value} (h:RelL g d vs xs) (k:RelL g d ws ys):RelL g d (vs++ws) (xs++ys):=by
 have hl:=relL_length h
 refine relL_iff.2 ⟨by simp [hl,relL_length k],fun j v x hv hx=>?_⟩
 rcases Nat.lt_or_ge j vs.length with hj | hj
 ·rw [List.getElem?_append_left hj] at hv
  rw [List.getElem?_append_left (by omega)] at hx
  exact (relL_iff.1 h).2 j v x hv hx
 ·rw [List.getElem?_append_right hj] at hv
  rw [List.getElem?_append_right (by omega)] at hx
  exact (relL_iff.1 k).2 (j - vs.length) v x hv (by rw [hl]; exact hx)
theorem relL_take {g:Gh} {d:Nat} {vs:List V} {xs:List Value} (n:Nat) (h:RelL g d vs xs):RelL g d (vs.take n) (xs.take n):=by
 have hl:=relL_length h
 refine relL_iff.2 ⟨by simp [hl],fun j v x hv hx=>?_⟩
 rw [List.getElem?_take] at hv hx
 split at hv
 ·rw [if_pos ‹_›] at hx; exact (relL_iff.1 h).2 j v x hv hx
 ·cases hv
theorem relL_drop {g:Gh} {d:Nat} {vs:List V} {xs:List Value} (n:Nat) (h:RelL g d vs xs):RelL g d (vs.drop n) (xs.drop n):=by
 have hl:=relL_length h
 refine relL_iff.2 ⟨by simp [hl],fun j v x hv hx=>?_⟩
 rw [List.getElem?_drop] at hv hx
 exact (relL_iff.1 h).2 _ v x hv hx
theorem isCells_iff:∀ {cs:List V},isCells cs=true ↔ ∀ c∈cs,isCell c=true
 | []=>by simp [isCells]
 | c::cs=>by simp [isCells,isCells_iff (cs:=cs)]
theorem oneCell_of_rel {g:Gh} {d:Nat} {v:V} {x:Value} (h:isCell v=true) (r:Rel g d v x):x.oneCell'=true:=by
 cases v<;>simp only [isCell,Rel,Bool.false_eq_true] at h r
 case bool=>subst r; rfl
 case int=>subst r; rfl
 case str=>subst r; rfl
 case ptr=>obtain ⟨_,_,rfl⟩:=r; rfl
 case nilp=>subst r; rfl
 case look=>obtain ⟨_,_,rfl,_⟩:=r; rfl
 case slice=>obtain ⟨_,_,_,rfl,_⟩:=r; rfl
 case func=>obtain ⟨_,_,rfl,_⟩:=r; rfl
 case nilf=>subst r; rfl
 case ifc=>obtain ⟨_,rfl,_⟩:=r; rfl
 case nili=>subst r; rfl
 case bsl=>obtain ⟨_,_,_,_,_,rfl⟩:=r; rfl
theorem oneCells_of_rel {g:Gh} {d:Nat} {cs:List V} {xs:List Value} (h:isCells cs=true) (r:RelL g d cs xs):∀ x∈xs,x.oneCell'=true:=by
 intro x hx
 obtain ⟨j,hj,rfl⟩:=List.getElem_of_mem hx
 have hl:=relL_length r
 exact oneCell_of_rel (isCells_iff.1 h _ (List.getElem_mem (by omega:j < cs.length))) ((relL_iff.1 r).2 j _ _ (List.getElem?_eq_getElem (by omega)) (List.getElem?_eq_getElem hj))
theorem rel_strip {g:Gh} {d:Nat} {v:V} {x:Value} (r:Rel g d v x):Rel g d (strip v) x:=by
 unfold strip
 split
 ·simp only [Rel] at r ⊢
  obtain ⟨a,n,c,hx,hn,hc,hun,hr,hs,hk⟩:=r
  exact ⟨a,n,c,hx,hn,hc,hun,hr,hs,hk⟩
 ·exact r
theorem strip_own {v:V} {e:Nat} {xs:List (List V)}:strip v≠.slice (.own e) xs:=by
 intro h
 cases v<;>simp [strip] at h
 rename_i k ys
 cases k<;>simp at h
theorem isCell_strip (v:V):isCell (strip v)=isCell v:=by
 unfold strip; split<;>rfl
mutual
theorem rel_low {g:Gh} {n d:Nat}:∀ (v:V) (x:Value),low n v=true→Rel g d v x→Rel g n v x
 | .undef,_,h,_=>by simp [low] at h
 | .bool _,_,_,r=>by simpa [Rel] using r
 | .int _ _,_,_,r=>by simpa [Rel] using r
 | .str _,_,_,r=>by simpa [Rel] using r
 | .ptr l i o,x,h,r=>by
  simp only [Rel] at r ⊢
  simp [low] at h
  exact ⟨h,r.2⟩
 | .nilp,_,_,r=>by simpa [Rel] using r
 | .look cs,x,_,r=>by simpa only [Rel] using r
 | .slice k xs,x,_,r=>by simpa only [Rel] using r
 | .func f cs,x,h,r=>by
  simp only [Rel] at r ⊢
  simp only [low,Bool.and_eq_true] at h
  obtain ⟨f',cs',hx,hc,hf⟩:=r
  refine ⟨f',cs',hx,relL_low cs cs' h.2 hc,?_⟩
  cases f with
  | func k=>exact hf
  | yield l=>exact ⟨hf.1,by simpa using h.1,hf.2.2⟩
  | _=>exact hf
 | .nilf,_,_,r=>by simpa [Rel] using r
 | .ifc t v,x,h,r=>by
  simp only [Rel] at r ⊢
  simp only [low] at h
  obtain ⟨y,hx,hy⟩:=r
  exact ⟨y,hx,rel_low v y h hy⟩
 | .nili,_,_,r=>by simpa [Rel] using r
 | .agg cs,x,h,r=>by
  simp only [Rel] at r ⊢
  simp only [low] at h
  obtain ⟨vs,hx,hi,hv⟩:=r
  exact ⟨vs,hx,hi,relL_low cs vs h hv⟩
 | .tup cs,x,h,r=>by
  simp only [Rel] at r ⊢
  simp only [low] at h
  obtain ⟨vs,hx,hv⟩:=r
  exact ⟨vs,hx,relL_low cs vs h hv⟩
 | .fresh cs,x,h,_=>by simp [low] at h
 | .mir l i o e xs,x,h,_=>by simp [low] at h
 | .bsl l i o k m e,x,h,r=>by
  simp only [Rel] at r ⊢
  simp [low] at h
  exact ⟨h,r.2⟩
theorem relL_low {g:Gh} {n d:Nat}:∀ (vs:List V) (xs:List Value),lowL n vs=true→RelL g d vs xs→RelL g n vs xs
 | [],_,_,r=>by simpa [RelL] using r
 | c::cs,xs,h,r=>by
  simp only [RelL] at r ⊢
  simp only [lowL,Bool.and_eq_true] at h
  obtain ⟨u,us,hx,hc,hs⟩:=r
  exact ⟨u,us,hx,rel_low c u h.1 hc,relL_low cs us h.2 hs⟩
end
theorem atG_at {g:Gh} {b:Nat}:∀ {o:Nat} {cs:List V},AtG g b o cs→∀ {j:Nat} {c:V},cs[j]?=some c→∃ v,g.G b (o+j)=some v∧isCell c=true∧Rel g 0 c v
 | _,[],_,j,c,h=>by simp at h
 | o,c0::cs,r,j,c,h=>by
  simp only [AtG] at r
  cases j with
  | zero=>simp at h; subst h; exact r.1
  | succ j =>
   have:=atG_at r.2 (j:=j) (c:=c) (by simpa using h)
   rwa [show o+1+j=o+(j+1) from by omega] at this
theorem atG_of {g:Gh} {b:Nat}:∀ {o:Nat} {cs:List V},(∀ (j:Nat) (c:V),cs[j]?=some c→∃ v,g.G b (o+j)=some v∧isCell c=true∧Rel g 0 c v)→AtG g b o cs
 | _,[],_=>by simp [AtG]
 | o,c0::cs,h=>by
  simp only [AtG]
  refine ⟨by simpa using h 0 c0 rfl,atG_of fun j c hc=>?_⟩
  have:=h (j+1) c (by simpa using hc)
  rwa [show o+(j+1)=o+1+j from by omega] at this
theorem atG_drop {g:Gh} {b o:Nat} {cs:List V} (h:AtG g b o cs) (n:Nat):AtG g b (o+n) (cs.drop n) :=
 atG_of fun j c hc=>by
  rw [List.getElem?_drop] at hc
  have:=atG_at h hc
  rwa [← Nat.add_assoc] at this
theorem atG_take {g:Gh} {b o:Nat} {cs:List V} (h:AtG g b o cs) (n:Nat):AtG g b o (cs.take n) :=
 atG_of fun j c hc=>by
  rw [List.getElem?_take] at hc
  split at hc
  ·exact atG_at h hc
  ·cases hc
theorem rowsG_at {g:Gh} {n:Nat}:∀ {a:Option Addr} {xs:List (List V)},RowsG g a xs→(∀ x∈xs,x.length=n)→∀ {j:Nat} {c:List V},xs[j]?=some c→∃ ad,a=some ad∧AtG g ad.block (ad.off+j*n) c
 | _,[],_,_,j,c,h=>by simp at h
 | none,_::_,r,_,_,_,_=>by simp [RowsG] at r
 | some ad,x::xs,r,hn,j,c,h=>by
  simp only [RowsG] at r
  cases j with
  | zero=>simp at h; subst h; exact ⟨ad,rfl,by simpa using r.1⟩
  | succ j =>
   obtain ⟨ad',e,hc⟩:=rowsG_at r.2 (fun y hy=>hn y (by simp [hy])) (j:=j) (c:=c) (by simpa using h)
   cases e
   refine ⟨ad,rfl,?_⟩
   rw [hn x (by simp)] at hc
   simpa [Nat.succ_mul,Nat.add_assoc,Nat.add_comm n (j*n)] using hc
def ahead (xs:List (List V)) (j:Nat):Nat:=((xs.take j).map List.length).sum
theorem rowsG_drop {g:Gh}:∀ {a:Addr} {xs:List (List V)},RowsG g (some a) xs→∀ (j:Nat),RowsG g (some ⟨a.block,a.off+ahead xs j,none⟩) (xs.drop j)
 | a,xs,r,0=>by
  simp only [ahead,List.take_zero,List.map_nil,List.sum_nil,Nat.add_zero,List.drop_zero]
  cases xs with
  | nil=>simp [RowsG]
  | cons x xs=>simpa only [RowsG] using r
 | a,[],_,j+1=>by simp [RowsG]
 | a,x::xs,r,j+1=>by
  simp only [RowsG] at r
  have:=rowsG_drop r.2 j
  simpa [ahead,Nat.add_assoc] using this
theorem rowsG_take {g:Gh}:∀ {a:Option Addr} {xs:List (List V)},RowsG g a xs→∀ (j:Nat),RowsG g a (xs.take j)
 | _,_,_,0=>by simp [RowsG]
 | _,[],_,_+1=>by simp [RowsG]
 | none,_::_,r,_=>by simp [RowsG] at r
 | some a,x::xs,r,j+1=>by
  simp only [RowsG] at r
  simpa only [List.take_succ_cons,RowsG] using ⟨r.1,rowsG_take r.2 j⟩
theorem ahead_len {xs:List (List V)} {n:Nat} (h:∀ x∈xs,x.length=n) (j:Nat) (hj:j≤xs.length):ahead xs j=j*n:=by
 induction xs generalizing j with
 | nil=>simp at hj; subst hj; simp [ahead]
 | cons x xs ih =>
  cases j with
  | zero=>simp [ahead]
  | succ j =>
   have:=ih (fun y hy=>h y (by simp [hy])) j (by simpa using hj)
   simp only [ahead,List.take_succ_cons,List.map_cons,List.sum_cons] at this ⊢
   rw [this,h x (by simp),Nat.succ_mul,Nat.add_comm]
end AM
end Go.Proofs.Ytimfbnojmdnlnaa
end
section
namespace Go.Proofs.Ytimfbnojmdnlnaa
namespace AM
theorem dz_some {x:Option (List V)} {cs:List V} (h:dz x=some cs):x=some cs:=by
 cases x with
 | none=>cases h
 | some xs =>
  simp only [dz] at h
  cases hb:(Nat.beq xs.length 7&&xs.all isUndef)<;>rw [hb] at h
  ·exact h
  ·cases h
theorem dz_cells {cs:List V} (h:isCells cs=true):dz (some cs)=some cs:=by
 have:cs.all isUndef=false∨cs.length≠7:=by
  cases cs with
  | nil=>exact .inr (by simp)
  | cons c cs =>
   left
   simp only [isCells,Bool.and_eq_true] at h
   have h1:=h.1
   cases c<;>first | (simp [isUndef]; done) | (simp [isCell] at h1; done)
 simp only [dz]
 rcases this with h | h
 ·rw [h,Bool.and_false]; rfl
 ·have:Nat.beq cs.length 7=false:=by
   cases hb:Nat.beq cs.length 7
   ·rfl
   ·exact absurd (Nat.eq_of_beq_eq_true hb) h
  rw [this]; rfl
theorem dz_dead:dz (some dead)=none:=rfl
theorem dz_cases (x:Option (List V)):dz x=none∨dz x=x:=by
 cases x with
 | none=>exact .inl rfl
 | some xs =>
  simp only [dz]
  cases (Nat.beq xs.length 7&&xs.all isUndef)
  ·exact .inr rfl
  ·exact .inl rfl
theorem dead_of_dz {xs:List V} (h:dz (some xs)=none):xs=dead:=by
 simp only [dz] at h
 cases hb:(Nat.beq xs.length 7&&xs.all isUndef)<;>rw [hb] at h
 ·cases h
 ·simp only [Bool.and_eq_true] at hb
  have hl:xs.length=7:=Nat.eq_of_beq_eq_true hb.1
  have hu:∀ v∈xs,v=.undef:=fun v hv=>by
   have:=List.all_eq_true.1 hb.2 v hv
   cases v<;>first | rfl | (simp [isUndef] at this; done)
  have:xs=List.replicate 7 .undef:=List.eq_replicate_iff.2 ⟨hl,hu⟩
  rw [this]; rfl
theorem getBox_lt:∀ {T:St} {l i:Nat} {cs:List V},getBox T l i=some cs→l < T.length
 | [],_,_,_,h=>by simp [getBox] at h
 | L::S,l,i,cs,h=>by
  simp only [getBox] at h
  split at h
  ·rename_i e; simp [e]
  ·have:=getBox_lt h; simp; omega
theorem getLp_lt:∀ {T:St} {l:Nat} {p:Lp},getLp T l=some p→l < T.length
 | [],_,_,h=>by simp [getLp] at h
 | L::S,l,p,h=>by
  simp only [getLp] at h
  split at h
  ·rename_i e; simp [e]
  ·have:=getLp_lt h; simp; omega
theorem length_setBox:∀ (T:St) (l i:Nat) (cs:List V),(setBox T l i cs).length=T.length
 | [],_,_,_=>rfl
 | L::S,l,i,cs=>by simp only [setBox]; split<;>simp [length_setBox S]
theorem length_setLp:∀ (T:St) (l:Nat) (p:Option Lp),(setLp T l p).length=T.length
 | [],_,_=>rfl
 | L::S,l,p=>by simp only [setLp]; split<;>simp [length_setLp S]
theorem getBox_setBox':∀ {T:St} {l i:Nat} {cs cs':List V} (h:getBox T l i=some cs) (l' i':Nat),getBox (setBox T l i cs') l' i'=if l'=l∧i'=i then dz (some cs') else getBox T l' i'
 | [],_,_,_,_,h,_,_=>by simp [getBox] at h
 | L::S,l,i,cs,cs',h,l',i'=>by
  simp only [getBox] at h
  simp only [setBox]
  split at h
  ·rename_i e
   subst e
   have hi:i < L.bs.length:=(List.getElem?_eq_some_iff.1 (dz_some h)).1
   simp only [if_true,getBox]
   by_cases hl:l'=S.length
   ·subst hl
    simp only [if_true,true_and]
    by_cases hii:i'=i
    ·subst hii; simp [hi]
    ·simp [hii,List.getElem?_set,Ne.symm hii]
   ·simp [hl]
  ·rename_i e
   rw [if_neg e]
   simp only [getBox,length_setBox]
   have hlt:=getBox_lt h
   by_cases hl:l'=S.length
   ·subst hl
    simp only [if_true]
    rw [if_neg (by rintro ⟨rfl,_⟩; omega)]
   ·rw [if_neg hl,if_neg hl,getBox_setBox' h l' i']
theorem getBox_setBox {T:St} {l i:Nat} {cs cs':List V} (h:getBox T l i=some cs) (hc:isCells cs'=true) (l' i':Nat):getBox (setBox T l i cs') l' i'=if l'=l∧i'=i then some cs' else getBox T l' i':=by
 rw [getBox_setBox' h,dz_cells hc]
theorem getBox_kill {T:St} {l i:Nat} {cs:List V} (h:getBox T l i=some cs) (l' i':Nat):getBox (setBox T l i dead) l' i'=if l'=l∧i'=i then none else getBox T l' i':=by
 rw [getBox_setBox' h,dz_dead]
theorem lenAt_setBox:∀ (T:St) (l i:Nat) (cs:List V) (l':Nat),lenAt (setBox T l i cs) l'=lenAt T l'
 | [],_,_,_,_=>rfl
 | L::S,l,i,cs,l'=>by
  simp only [setBox]
  split
  ·simp [lenAt]
  ·simp [lenAt,length_setBox,lenAt_setBox S]
theorem lenAt_setLp:∀ (T:St) (l:Nat) (p:Option Lp) (l':Nat),lenAt (setLp T l p) l'=lenAt T l'
 | [],_,_,_=>rfl
 | L::S,l,p,l'=>by
  simp only [setLp]
  split
  ·simp [lenAt]
  ·simp [lenAt,length_setLp,lenAt_setLp S]
theorem lenAt_top (L:Lev) (R:St):lenAt (L::R) R.length=L.bs.length:=by simp [lenAt]
theorem lenAt_below {L:Lev} {R:St} {l:Nat} (h:l≠R.length):lenAt (L::R) l=lenAt R l:=by simp [lenAt,h]
theorem length_addBox:∀ (T:St) (l:Nat) (z:List V),(addBox T l z).length=T.length
 | [],_,_=>rfl
 | L::S,l,z=>by simp only [addBox]; split<;>simp [length_addBox S]
theorem lenAt_addBox:∀ (T:St) (l:Nat) (z:List V) (l':Nat),l < T.length→lenAt (addBox T l z) l'=if l'=l then lenAt T l+1 else lenAt T l'
 | [],_,_,_,h=>by simp at h
 | L::S,l,z,l',h=>by
  simp only [addBox]
  split
  ·rename_i e
   subst e
   simp only [lenAt]
   by_cases hl:l'=S.length<;>simp [hl]
  ·rename_i e
   have hlt:l < S.length:=by simp at h; omega
   simp only [lenAt,length_addBox]
   by_cases hl:l'=S.length
   ·subst hl
    rw [if_pos rfl,if_pos rfl,if_neg (by omega)]
   ·rw [if_neg hl,if_neg hl,if_neg e,lenAt_addBox S l z l' hlt]
theorem getLp_addBox:∀ (T:St) (l:Nat) (z:List V) (l':Nat),getLp (addBox T l z) l'=getLp T l'
 | [],_,_,_=>rfl
 | L::S,l,z,l'=>by
  simp only [addBox]
  split
  ·simp [getLp]
  ·simp [getLp,length_addBox,getLp_addBox S]
theorem getBox_addBox:∀ {T:St} {l:Nat} (h:l < T.length) {z:List V} (hz:isCells z=true) (l' i':Nat),getBox (addBox T l z) l' i'=if l'=l∧i'=lenAt T l then some z else getBox T l' i'
 | [],_,h,_,_,_,_=>by simp at h
 | L::S,l,h,z,hz,l',i'=>by
  simp only [addBox]
  split
  ·rename_i e
   subst e
   simp only [getBox,lenAt,if_true]
   by_cases hl:l'=S.length
   ·subst hl
    simp only [if_true,true_and]
    by_cases hi:i'=L.bs.length
    ·subst hi; simp [dz_cells hz]
    ·rw [if_neg hi]
     congr 1
     rcases Nat.lt_or_ge i' L.bs.length with h | h
     ·rw [List.getElem?_append_left h]
     ·rw [List.getElem?_append_right h,List.getElem?_eq_none (by omega:L.bs.length≤i'),List.getElem?_eq_none (by simp; omega)]
   ·simp [hl]
  ·rename_i e
   have hlt:l < S.length:=by simp at h; omega
   rw [lenAt_below e]
   simp only [getBox,length_addBox]
   by_cases hl:l'=S.length
   ·subst hl
    rw [if_pos rfl,if_pos rfl,if_neg (by omega)]
   ·rw [if_neg hl,if_neg hl,getBox_addBox hlt hz l' i']
theorem getLp_setBox:∀ (T:St) (l i:Nat) (cs:List V) (l':Nat),getLp (setBox T l i cs) l'=getLp T l'
 | [],_,_,_,_=>rfl
 | L::S,l,i,cs,l'=>by
  simp only [setBox]
  split
  ·simp [getLp]
  ·simp [getLp,length_setBox,getLp_setBox S]
theorem getBox_setLp:∀ (T:St) (l:Nat) (p:Option Lp) (l' i':Nat),getBox (setLp T l p) l' i'=getBox T l' i'
 | [],_,_,_,_=>rfl
 | L::S,l,p,l',i'=>by
  simp only [setLp]
  split
  ·simp [getBox]
  ·simp [getBox,length_setLp,getBox_setLp S]
theorem getLp_setLp:∀ {T:St} {l:Nat} (h:l < T.length) (p:Option Lp) (l':Nat),getLp (setLp T l p) l'=if l'=l then p else getLp T l'
 | [],_,h,_,_=>by simp at h
 | L::S,l,h,p,l'=>by
  simp only [setLp]
  split
  ·rename_i e
   subst e
   simp only [getLp]
   by_cases hl:l'=S.length<;>simp [hl]
  ·rename_i e
   simp only [getLp,length_setLp]
   by_cases hl:l'=S.length
   ·subst hl; simp [e,Ne.symm e]
   ·rw [if_neg hl,if_neg hl,getLp_setLp (by simp at h; omega)]
theorem getBox_top (bs:List (List V)) (lp:Option Lp) (R:St) (i:Nat):getBox (⟨bs,lp⟩::R) R.length i=dz bs[i]?:=by simp [getBox]
theorem getBox_push (L:Lev) (R:St) (z:List V) (hz:isCells z=true) (l i:Nat):getBox ({ L with bs:=L.bs++[z] }::R) l i=if l=R.length∧i=L.bs.length then some z else getBox (L::R) l i:=by
 simp only [getBox]
 by_cases hl:l=R.length
 ·subst hl
  simp only [if_true,true_and]
  by_cases hi:i=L.bs.length
  ·subst hi; simp [dz_cells hz]
  ·rw [if_neg hi]
   congr 1
   rcases Nat.lt_or_ge i L.bs.length with h | h
   ·rw [List.getElem?_append_left h]
   ·rw [List.getElem?_append_right h,List.getElem?_eq_none (by omega:L.bs.length≤i),List.getElem?_eq_none (by simp; omega)]
 ·simp [hl]
def OwnAt (P:Program) (g:Gh) (w:World) (c:Loc) (e:Nat) (x:Value) (xs:List (List V)):Prop :=
 ∃ n cs,szOf P e=some n∧0 < n∧(∀ r∈xs,r.length=n)∧w.ownsRow 0 e n x xs.length cs ∧
  ∀ b,x.ownBlock=some b→g.use b=.row c∧∀ o v,g.G b o=some v→o < xs.length*n
def BoxAt (P:Program) (g:Gh) (w:World) (l i:Nat) (cs:List V):Prop :=
 g.use (g.bx l i)=.box l i∧∃ vs e ex,w.heap[g.bx l i]?=some (.cells ⟨vs++ex⟩ e (0,0))∧isCells cs=true∧RelL g (l+1) cs vs ∧
  (∀ (j e':Nat) (xs:List (List V)) (x:Value),cs[j]?=some (.slice (.own e') xs)→vs[j]?=some x→OwnAt P g w (.cell l i j) e' x xs)∧g.al l i=some (e,(vs++ex).length)
theorem BoxAt.cells {P:Program} {g:Gh} {w:World} {l i:Nat} {cs:List V} (h:BoxAt P g w l i cs):isCells cs=true:=by
 obtain ⟨_,_,_,_,_,h,_⟩:=h; exact h
def isCalm:V→Bool
 | .fresh _=>false
 | .mir ..=>false
 | .slice (.own _) _=>false
 | _=>true
def LpAt (P:Program) (g:Gh) (w:World) (l:Nat) (p:Lp):Prop :=
 g.use (g.lp l)=.loop l∧∃ r:Loop,w.heap[g.lp l]?=some (.loop r)∧r.params.toList=p.ps∧(∃ res,compC P r.tmps.size res r.assign=some p.asg∧compC P r.tmps.size res r.body=some p.body)∧(noRng p.asg=true∧noRng p.body=true)∧(∀ q∈p.ps,q < r.tmps.size)∧(∀ t,r.tmps.size≤t→p.fr t=.undef) ∧
  (∀ (t:Nat) (x:Value),r.tmps[t]?=some x→isCalm (p.fr t)=true∧Rel g (l+1) (p.fr t) x) ∧
  (match p.jump with
   | none=>r.state=.ready∧r.pending=none
   | some .nrm=>r.state=.busy∧r.pending=none
   | some .ret=>r.state=.done∧r.pending=some .ret
   | some (.exit id)=>r.state=.done∧r.pending=some (.exit id)
   | _=>False)
def Base (P : Program) (g : Gh) : Prop := ∀ k,P.globals.toList.findIdx? (fun x => x.name == "internal/bytealg.MaxLen") = some k → ∃ m,g.G k 0 = some (.int .i64 m)
theorem Base.mono {P:Program} {g g':Gh} {n:Nat} (h:Base P g) (hle:Le n g g'):Base P g':=fun k hk=>let ⟨m,hm⟩:=h k hk; ⟨m,hle.G _ _ _ hm⟩
structure Inv (P:Program) (T:St) (g:Gh) (w:World):Prop where
 K:Base P g
 G:∀ b o v,g.G b o=some v→w.cell? ⟨b,o,none⟩=some v∧(g.use b=.free∨∃ c,g.use b=.row c)
 U:∀ b,w.heap.size≤b→g.use b=.free
 B:∀ l i cs,getBox T l i=some cs→BoxAt P g w l i cs
 L:∀ l p,getLp T l=some p→LpAt P g w l p
 N:∀ l i,l < T.length→lenAt T l≤i→g.al l i=none
structure TmpAt (P:Program) (T:St) (g:Gh) (w:World) (t:Nat) (v:V) (x:Value):Prop where
 rel:Rel g T.length v x
 own:∀ e xs,v=.slice (.own e) xs→OwnAt P g w (.tmp t) e x xs
 fresh:∀ z,v=.fresh z→∃ b ty zs,x=.pointer (some ⟨b,0,none⟩)∧g.use b=.row (.tmp t)∧w.heap[b]?=some (.cells ⟨zs⟩ ty (0,0))∧isCells z=true∧RelL g 0 z zs∧(∀ o,g.G b o=none) ∧
  ∀ (j:Nat) e ys,z[j]?≠some (.slice (.own e) ys)
 mir:∀ l i o e xs,v=.mir l i o e xs→(∃ cs,getBox T l i=some cs∧cs[o]?=some (.slice (.own e) xs))∧w.cell? ⟨g.bx l i,o,none⟩=some x
structure FrRel (P:Program) (T:St) (g:Gh) (w:World) (nt:Nat) (F:Fr) (tmps:Array Value):Prop where
 size:tmps.size=nt
 past:∀ t,nt≤t→F t=.undef
 tmp:∀ (t:Nat) (x:Value),tmps[t]?=some x→TmpAt P T g w t (F t) x
structure Frm (g:Gh) (w:World) (g':Gh) (w':World):Prop where
 os:w'.os=w.os
 tape:w'.tape=w.tape
 output:w'.output=w.output
 size:w.heap.size≤w'.heap.size
 old:∀ b,b < w.heap.size→g.use b=.free→w'.heap[b]?=w.heap[b]?∧g'.use b=.free∧∀ o,g'.G b o=g.G b o
theorem Frm.refl (g:Gh) (w:World):Frm g w g w:=⟨rfl,rfl,rfl,Nat.le_refl _,fun _ _ h=>⟨rfl,h,fun _=>rfl⟩⟩
theorem Frm.trans {g1 g2 g3:Gh} {w1 w2 w3:World} (h:Frm g1 w1 g2 w2) (k:Frm g2 w2 g3 w3):Frm g1 w1 g3 w3:={
 os:=k.os.trans h.os
 tape:=k.tape.trans h.tape
 output:=k.output.trans h.output
 size:=Nat.le_trans h.size k.size
 old b hb hu:=by
  obtain ⟨e1,u1,o1⟩:=h.old b hb hu
  obtain ⟨e2,u2,o2⟩:=k.old b (Nat.lt_of_lt_of_le hb h.size) u1
  exact ⟨e2.trans e1,u2,fun o=>(o2 o).trans (o1 o)⟩ }
structure Same (U:Use→Prop) (g:Gh) (w:World) (g':Gh) (w':World):Prop where
 os:w'.os=w.os
 tape:w'.tape=w.tape
 output:w'.output=w.output
 size:w.heap.size≤w'.heap.size
 old:∀ b,b < w.heap.size→¬ U (g.use b)→w'.heap[b]?=w.heap[b]?∧g'.use b=g.use b∧∀ o,g'.G b o=g.G b o
theorem Same.frm {U:Use→Prop} {g:Gh} {w:World} {g':Gh} {w':World} (h:Same U g w g' w') (hU:¬ U .free):Frm g w g' w' :=
 ⟨h.os,h.tape,h.output,h.size,fun b hb hu=>by
  obtain ⟨e1,e2,e3⟩:=h.old b hb (by rw [hu]; exact hU)
  exact ⟨e1,e2.trans hu,e3⟩⟩
theorem Same.refl (U:Use→Prop) (g:Gh) (w:World):Same U g w g w:=⟨rfl,rfl,rfl,Nat.le_refl _,fun _ _ _=>⟨rfl,rfl,fun _=>rfl⟩⟩
theorem ownBlock_lt {w:World} {base e n k:Nat} {x:Value} {cs:List Value} (h:w.ownsRow base e n x k cs) {b:Nat} (hb:x.ownBlock=some b):b < w.heap.size:=(h.lt b hb).2
section
variable {P:Program} {T T':St} {U:Use→Prop} {g:Gh} {w:World} {g':Gh} {w':World}
theorem ownsRow_same {base e n k:Nat} {x:Value} {cs:List Value} (h:w.ownsRow base e n x k cs) (hb:∀ b,x.ownBlock=some b→w'.heap[b]?=w.heap[b]?):w'.ownsRow base e n x k cs:=by
 refine ⟨h.1,?_⟩
 rcases h.2 with hn | ⟨b,cap,cur,rfl,hb0,hh,r⟩
 ·exact .inl hn
 ·exact .inr ⟨b,cap,cur,rfl,hb0,by rw [hb b rfl]; exact hh,r⟩
theorem OwnAt.same {c:Loc} {e:Nat} {x:Value} {xs:List (List V)} (h:OwnAt P g w c e x xs) (S:Same U g w g' w') (hU:¬ U (.row c)):OwnAt P g' w' c e x xs:=by
 obtain ⟨n,cs,h1,h2,h3,h4,h5⟩:=h
 have hk:∀ b,x.ownBlock=some b→w'.heap[b]?=w.heap[b]?∧g'.use b=g.use b∧∀ o,g'.G b o=g.G b o:=fun b hb =>
  S.old b (ownBlock_lt h4 hb) (by rw [(h5 b hb).1]; exact hU)
 refine ⟨n,cs,h1,h2,h3,ownsRow_same h4 fun b hb=>(hk b hb).1,fun b hb=>⟨(hk b hb).2.1.trans (h5 b hb).1,fun o v hv=>(h5 b hb).2 o v ?_⟩⟩
 rw [← (hk b hb).2.2 o]; exact hv
theorem BoxAt.same {l i:Nat} {cs:List V} (h:BoxAt P g w l i cs) (I:Inv P T g w) (S:Same U g w g' w') (hle:Le (l+1) g g') (hU:¬ U (.box l i)) (hU':∀ j, ¬ U (.row (.cell l i j))):BoxAt P g' w' l i cs:=by
 obtain ⟨hu,vs,e,ex,hh,hi,hr,ho,ha⟩:=h
 obtain ⟨e1,a1⟩:=hle.bx l i _ (Nat.lt_succ_self l) ha
 have hlt:g.bx l i < w.heap.size:=(Array.getElem?_eq_some_iff.1 hh).1
 obtain ⟨k1,k2,_⟩:=S.old _ hlt (by rw [hu]; exact hU)
 refine ⟨by rw [e1,k2]; exact hu,vs,e,ex,?_,hi,relL_mono hle (Nat.le_refl _) cs vs hr,fun j e' xs x hj hx=>(ho j e' xs x hj hx).same S (hU' j),a1⟩
 rw [e1,k1]
 exact hh
theorem LpAt.same {l:Nat} {p:Lp} (h:LpAt P g w l p) (S:Same U g w g' w') (hle:Le (l+1) g g') (hlp:g'.lp l=g.lp l∧g'.use (g.lp l)=.loop l) (hU:¬ U (.loop l)):LpAt P g' w' l p:=by
 obtain ⟨hu,r,hh,hp,hc,hrg,hq,hn,hf,hj⟩:=h
 obtain ⟨e1,u1⟩:=hlp
 have hlt:g.lp l < w.heap.size:=(Array.getElem?_eq_some_iff.1 hh).1
 refine ⟨by rw [e1]; exact u1,r,?_,hp,hc,hrg,hq,hn,fun t x hx=>⟨(hf t x hx).1,rel_mono hle (Nat.le_refl _) _ _ (hf t x hx).2⟩,hj⟩
 rw [e1,(S.old _ hlt (by rw [hu]; exact hU)).1]
 exact hh
theorem app_get {α:Type} {vs ex:List α} {j:Nat} {z:α} (h:vs[j]?=some z):(vs++ex)[j]?=some z:=by
 rw [List.getElem?_append_left (List.getElem?_eq_some_iff.1 h).1]; exact h
theorem cell_box {w:World} {b:Nat} {vs ex:List Value} {e:Nat} (h:w.heap[b]?=some (.cells ⟨vs++ex⟩ e (0,0))) {j:Nat} {z:Value} (hz:vs[j]?=some z):w.cell? ⟨b,j,none⟩=some z:=by
 have:=app_get (ex:=ex) hz
 simp [World.cell?,h,this]
theorem cell?_eq {w w':World} {b:Nat} (h:w'.heap[b]?=w.heap[b]?) (o:Nat):w'.cell? ⟨b,o,none⟩=w.cell? ⟨b,o,none⟩:=by
 simp only [World.cell?,h]
theorem Inv.step (I:Inv P T g w) (S:Same U g w g' w') (hle:Le T.length g g')
  (hG:∀ b o v,g'.G b o=some v→(U (g.use b)∧b < w.heap.size∨w.heap.size≤b)→w'.cell? ⟨b,o,none⟩=some v∧(g'.use b=.free∨∃ c,g'.use b=.row c))
  (hU:∀ b,w'.heap.size≤b→g'.use b=.free)
  (hB:∀ l i cs,getBox T' l i=some cs→(getBox T l i=some cs∧¬ U (.box l i)∧∀ j, ¬ U (.row (.cell l i j)))∨BoxAt P g' w' l i cs)
  (hL:∀ l p,getLp T' l=some p→(getLp T l=some p∧¬ U (.loop l)∧l+1 < T.length)∨LpAt P g' w' l p)
  (hN:∀ l i,l < T'.length→lenAt T' l≤i→g'.al l i=none):Inv P T' g' w':={
 K:=I.K.mono hle
 N:=hN
 G b o v hv:=by
  rcases Nat.lt_or_ge b w.heap.size with hb | hb
  ·by_cases hu:U (g.use b)
   ·exact hG b o v hv (.inl ⟨hu,hb⟩)
   ·obtain ⟨e1,e2,e3⟩:=S.old b hb hu
    rw [e3] at hv
    obtain ⟨h1,h2⟩:=I.G b o v hv
    exact ⟨by rw [cell?_eq e1]; exact h1,by rw [e2]; exact h2⟩
  ·exact hG b o v hv (.inr hb)
 U:=hU
 B l i cs hc:=by
  rcases hB l i cs hc with ⟨h1,h2,h3⟩ | h
  ·exact (I.B l i cs h1).same I S (hle.less (getBox_lt h1)) h2 h3
  ·exact h
 L l p hp:=by
  rcases hL l p hp with ⟨h1,h2,h3⟩ | h
  ·exact (I.L l p h1).same S (hle.less (getLp_lt h1)) (hle.lp l h3 (I.L l p h1).1) h2
  ·exact h }
theorem TmpAt.same {t:Nat} {v:V} {x:Value} (h:TmpAt P T g w t v x) (I:Inv P T g w) (S:Same U g w g' w') (hle:Le T.length g g') (hlen:T'.length=T.length) (hU:¬ U (.row (.tmp t)))
  (hm:(∀ l i o e xs,v≠.mir l i o e xs)∨(T'=T∧∀ l i, ¬ U (.box l i))):TmpAt P T' g' w' t v x:={
 rel:=by rw [hlen]; exact rel_mono hle (Nat.le_refl _) v x h.rel
 own e xs hv:=(h.own e xs hv).same S hU
 fresh z hv:=by
  obtain ⟨b,ty,zs,hx,hu,hh,hi,hr,hg,ho⟩:=h.fresh z hv
  obtain ⟨e1,e2,e3⟩:=S.old b (Array.getElem?_eq_some_iff.1 hh).1 (by rw [hu]; exact hU)
  exact ⟨b,ty,zs,hx,e2.trans hu,e1.trans hh,hi,relL_mono (hle.less (Nat.zero_le _)) (Nat.le_refl _) z zs hr,fun o=>(e3 o).trans (hg o),ho⟩
 mir l i o e xs hv:=by
  obtain ⟨⟨cs,h1,h2⟩,h3⟩:=h.mir l i o e xs hv
  rcases hm with hm | ⟨rfl,hm⟩
  ·exact absurd hv (hm l i o e xs)
  ·obtain ⟨hu,vs,e',ex,hh,_,_,_,ha⟩:=I.B l i cs h1
   obtain ⟨e1,u1⟩:=hle.bx l i _ (getBox_lt h1) ha
   obtain ⟨k1,_,_⟩:=S.old (g.bx l i) (Array.getElem?_eq_some_iff.1 hh).1 (by rw [hu]; exact hm l i)
   exact ⟨⟨cs,h1,h2⟩,by rw [e1,cell?_eq k1]; exact h3⟩ }
end
theorem put_same (F:Fr) (d:Nat) (v:V):put F d v d=v:=by simp [put]
theorem put_ne (F:Fr) {d t:Nat} (v:V) (h:t≠d):put F d v t=F t:=by simp [put,h]
theorem putO_past {F:Fr} {nt:Nat} {d:Option Nat} {v:V} (h:∀ t,nt≤t→F t=.undef) (hd:inNt nt d=true):∀ t,nt≤t→putO F d v t=.undef:=by
 intro t ht
 cases d with
 | none=>exact h t ht
 | some d =>
  simp only [inNt,decide_eq_true_eq] at hd
  simp only [putO]
  rw [put_ne _ _ (by omega)]
  exact h t ht
theorem FrRel.put {P:Program} {T:St} {g:Gh} {w:World} {nt:Nat} {F:Fr} {a:Act} {d:Option Nat} {v:V} {x:Value} (hs:a.tmps.size=nt) (hp:∀ t,nt≤t→F t=.undef) (hd:inNt nt d=true)
  (h:∀ (t:Nat) (y:Value),d≠some t→a.tmps[t]?=some y→TmpAt P T g w t (F t) y)
  (hv:∀ t,d=some t→TmpAt P T g w t v x):FrRel P T g w nt (putO F d v) (a.put d x).tmps:={
 size:=by cases d<;>simp [Act.put,hs]
 past:=putO_past hp hd
 tmp t y hy:=by
  cases d with
  | none=>exact h t y (by simp) hy
  | some d =>
   simp only [Act.put] at hy
   by_cases e:t=d
   ·subst e
    have:y=x:=by
     rw [Array.getElem?_setIfInBounds] at hy
     simp at hy
     exact hy.2.symm
    subst this
    simp only [putO,put_same]
    exact hv t rfl
   ·rw [Array.getElem?_setIfInBounds_ne (Ne.symm e)] at hy
    simp only [putO,put_ne _ _ e]
    exact h t y (by simpa using Ne.symm e) hy }
end AM
end Go.Proofs.Ytimfbnojmdnlnaa
end
section
namespace Go.Proofs.Ytimfbnojmdnlnaa
namespace AM
theorem add_lit (b o n:Nat):(⟨b,o,none⟩:Addr).add n=⟨b,o+n,none⟩:=by
 unfold Addr.add; split<;>simp_all
theorem isCalm_strip {v:V} (h:tame v=true):isCalm (strip v)=true:=by
 cases v<;>try (simp [tame] at h)<;>try rfl
 all_goals try rfl
 rename_i k xs
 cases k<;>rfl
theorem isCalm_cp {v u:V} (h:cp v=some u):isCalm u=true:=by
 cases v<;>simp [cp] at h<;>subst h<;>try rfl
 rename_i k xs
 cases k<;>rfl
theorem rel_cp {g:Gh} {d:Nat} {v u:V} {x:Value} (h:cp v=some u) (r:Rel g d v x):Rel g d u x:=by
 cases v<;>simp [cp] at h<;>(subst h; first | exact r | exact rel_strip r | (simp only [Rel] at r ⊢; exact r))
theorem tames_iff:∀ {vs:List V},tames vs=true ↔ ∀ v∈vs,tame v=true
 | []=>by simp [tames]
 | v::vs=>by simp [tames,tames_iff (vs:=vs)]
theorem rel_ofCell {g:Gh} {d:Nat} {x:Value} {v:V} (h:ofCell x=some v):Rel g d v x∧isCell v=true∧∀ e xs,v≠.slice (.own e) xs:=by
 unfold ofCell at h
 split at h<;>first | (cases h; done) | skip
 all_goals (injection h with h; subst h)
 case h_5=>exact ⟨by simp only [Rel]; exact ⟨none,0,0,rfl,rfl,Nat.le_refl _,⟨0,by simp⟩,by simp [RowsG],by simp,rfl,rfl⟩,rfl,by simp⟩
 all_goals exact ⟨by simp [Rel],rfl,by simp⟩
theorem relL_ofCells {g:Gh} {d:Nat}:∀ {xs:List Value} {vs:List V},xs.mapM ofCell=some vs→RelL g d vs xs∧isCells vs=true∧∀ v∈vs, ∀ e ys,v≠.slice (.own e) ys
 | [],vs,h=>by
  simp at h; subst h; simp [RelL,isCells]
 | x::xs,vs,h=>by
  simp only [List.mapM_cons,Option.pure_def,Option.bind_eq_bind,Option.bind_eq_some_iff] at h
  obtain ⟨v,hv,vs',hvs,h⟩:=h
  simp at h
  subst h
  obtain ⟨h1,h2,h3⟩:=rel_ofCell (g:=g) (d:=d) hv
  obtain ⟨k1,k2,k3⟩:=relL_ofCells (g:=g) (d:=d) hvs
  refine ⟨by simp only [RelL]; exact ⟨x,xs,rfl,h1,k1⟩,by simp [isCells,h2,k2],fun u hu=>?_⟩
  rcases List.mem_cons.1 hu with rfl | hu
  ·exact h3
  ·exact k3 u hu
theorem rel_ofValue {g:Gh} {d:Nat} {x:Value} {v:V} (h:ofValue x=some v):Rel g d v x∧isCalm v=true:=by
 unfold ofValue at h
 split at h
 ·rename_i cs
  obtain ⟨vs,hvs,rfl⟩:=Option.map_eq_some_iff.1 h
  obtain ⟨h1,h2,_⟩:=relL_ofCells (g:=g) (d:=d) hvs
  exact ⟨by simp only [Rel]; exact ⟨cs.toList,by simp,h2,h1⟩,rfl⟩
 ·obtain ⟨h1,h2,h3⟩:=rel_ofCell (g:=g) (d:=d) h
  refine ⟨h1,?_⟩
  cases v<;>simp [isCell] at h2<;>try rfl
  rename_i k ys
  cases k<;>first | rfl | exact absurd rfl (h3 _ _)
section
variable {P:Program} {T:St} {g:Gh} {w:World} {nt:Nat} {F:Fr} {a:Act}
theorem rel_tmp (hF:FrRel P T g w nt F a.tmps) (t:Nat):Rel g T.length (F t) (a.tmps.getD t undef):=by
 rcases Nat.lt_or_ge t a.tmps.size with h | h
 ·have:=(hF.tmp t a.tmps[t] (Array.getElem?_eq_getElem h)).rel
  simpa [h] using this
 ·rw [hF.past t (by rw [← hF.size]; exact h)]
  simp [Rel]
theorem rel_opd (hF:FrRel P T g w nt F a.tmps) {x:Operand} {X:Opd} (h:opd x=some X):Rel g T.length (evO F X) (a.eval x):=by
 unfold opd at h
 split at h
 ·injection h with h; subst h; exact rel_tmp hF _
 ·obtain ⟨v,hv,rfl⟩:=Option.map_eq_some_iff.1 h
  exact (rel_ofValue hv).1
 ·injection h with h; subst h
  simp only [evO,Act.eval,Rel,RelL]
  exact ⟨_,[],rfl,rfl,rfl⟩
 ·cases h
theorem mapM_get {α β:Type} {f:α→Option β}:∀ {xs:List α} {ys:List β},xs.mapM f=some ys→ys.length=xs.length∧∀ (j:Nat) (x:α),xs[j]?=some x→∃ y,ys[j]?=some y∧f x=some y
 | [],ys,h=>by simp at h; subst h; simp
 | x::xs,ys,h=>by
  simp only [List.mapM_cons,Option.pure_def,Option.bind_eq_bind,Option.bind_eq_some_iff] at h
  obtain ⟨y,hy,ys',hys,h⟩:=h
  simp at h
  subst h
  obtain ⟨hl,hj⟩:=mapM_get hys
  refine ⟨by simp [hl],fun j u hu=>?_⟩
  cases j with
  | zero=>simp at hu; subst hu; exact ⟨y,rfl,hy⟩
  | succ j=>simpa using hj j u (by simpa using hu)
theorem rel_opds (hF:FrRel P T g w nt F a.tmps):∀ {xs:List Operand} {Xs:List Opd},xs.mapM opd=some Xs→RelL g T.length (Xs.map (evO F)) (xs.map a.eval)
 | [],Xs,h=>by simp at h; subst h; simp [RelL]
 | x::xs,Xs,h=>by
  simp only [List.mapM_cons,Option.pure_def,Option.bind_eq_bind,Option.bind_eq_some_iff] at h
  obtain ⟨X,hX,Xs',hXs,h⟩:=h
  simp at h
  subst h
  simp only [List.map_cons,RelL]
  exact ⟨_,_,rfl,rel_opd hF hX,rel_opds hF hXs⟩
theorem relL_strip {g:Gh} {d:Nat}:∀ {vs:List V} {xs:List Value},RelL g d vs xs→RelL g d (vs.map strip) xs
 | [],_,r=>by simpa [RelL] using r
 | v::vs,xs,r=>by
  simp only [RelL,List.map_cons] at r ⊢
  obtain ⟨u,us,hx,hu,hs⟩:=r
  exact ⟨u,us,hx,rel_strip hu,relL_strip hs⟩
theorem isCells_strip:∀ (vs:List V),isCells (vs.map strip)=isCells vs
 | []=>rfl
 | v::vs=>by simp [isCells,isCell_strip,isCells_strip vs]
theorem rel_cellsOf {g:Gh} {d:Nat} {v:V} {x:Value} {cs:List V} (h:cellsOf v=some cs) (r:Rel g d v x):RelL g d cs x.cells.toList∧isCells cs=true:=by
 unfold cellsOf at h
 split at h
 ·injection h with h; subst h
  simp only [Rel] at r
  obtain ⟨vs,rfl,hi,hr⟩:=r
  exact ⟨by simpa [Value.cells] using relL_strip hr,by rw [isCells_strip]; exact hi⟩
 ·split at h
  ·rename_i hc
   injection h with h; subst h
   have h1:=oneCell_of_rel hc r
   have:x.cells=#[x]:=by cases x<;>simp_all [Value.oneCell',Value.cells]
   rw [this]
   exact ⟨by simp only [RelL]; exact ⟨x,[],rfl,r,rfl⟩,by simp [isCells,hc]⟩
  ·cases h
theorem cellsOf_own {v:V} {cs:List V} (h:cellsOf v=some cs) {j e:Nat} {xs:List (List V)} (hj:cs[j]?=some (.slice (.own e) xs)):j=0∧v=.slice (.own e) xs:=by
 unfold cellsOf at h
 split at h
 ·injection h with h; subst h
  rw [List.getElem?_map,Option.map_eq_some_iff] at hj
  obtain ⟨u,_,hu⟩:=hj
  exact absurd hu strip_own
 ·split at h
  ·injection h with h; subst h
   cases j with
   | zero=>simp at hj; exact ⟨rfl,hj⟩
   | succ j=>simp at hj
  ·cases h
theorem rel_ofCells {g:Gh} {d:Nat} {gg:Bool} {cs:List V} {vs:List Value} {v:V} (h:ofCells gg cs=some v) (hi:isCells cs=true) (r:RelL g d cs vs) :
  (gg=true∧Rel g d v (.agg ⟨vs⟩))∨(gg=false∧∃ x,vs=[x]∧Rel g d v x):=by
 unfold ofCells at h
 split at h
 ·rename_i hg
  injection h with h; subst h
  exact .inl ⟨hg,by simp only [Rel]; exact ⟨vs,rfl,hi,r⟩⟩
 ·rename_i hg
  split at h
  ·injection h with h; subst h
   simp only [RelL] at r
   obtain ⟨u,us,rfl,hu,rfl⟩:=r
   exact .inr ⟨by simpa using hg,u,rfl,hu⟩
  ·cases h
theorem isCalm_ofCells {gg:Bool} {cs:List V} {v:V} (h:ofCells gg (cs.map strip)=some v) (hi:isCells cs=true):isCalm v=true:=by
 unfold ofCells at h
 split at h
 ·injection h with h; subst h; rfl
 ·cases cs with
  | nil=>simp at h
  | cons c cs =>
   cases cs with
   | nil =>
    simp at h
    subst h
    simp only [isCells,Bool.and_true] at hi
    refine isCalm_strip ?_
    cases c<;>simp_all [isCell,tame]
   | cons _ _=>simp at h
theorem run_sizeOf {t n:Nat} (h:szOf P t=some n) (w:World):(sizeOf t).run P w=.ok n w:=by
 unfold szOf at h
 obtain ⟨i,hi,rfl⟩:=Option.map_eq_some_iff.1 h
 simp [sizeOf,typeInfo,hi]
theorem run_isAgg {t:Nat} {b:Bool} (h:aggOf P t=some b) (w:World):(isAgg t).run P w=.ok b w:=by
 unfold aggOf at h
 split at h
 ·rename_i hu; injection h with h; subst h; simp [isAgg,run_underlying hu]
 ·rename_i hu; injection h with h; subst h; simp [isAgg,run_underlying hu]
 ·rename_i d h1 h2 hu; injection h with h; subst h
  simp only [isAgg,Sem.run_bind,run_underlying hu,Result.andThen_ok]
  cases d<;>simp_all
 ·cases h
theorem run_cells (b o:Nat) (vs:List Value) (h:∀ (j:Nat) (v:Value),vs[j]?=some v→w.cell? ⟨b,o+j,none⟩=some v):(loadCells ⟨b,o,none⟩ vs.length).run P w=.ok ⟨vs⟩ w :=
 run_loadCells_list w _ vs fun j v hv=>by rw [add_lit]; exact h j v hv
theorem run_loadAt {ty n:Nat} {gg:Bool} {b o:Nat} {cs:List V} {vs:List Value} {v:V} {d:Nat} (hn:szOf P ty=some n) (hg:aggOf P ty=some gg) (hl:cs.length=n)
  (hc:∀ (j:Nat) (v:Value),vs[j]?=some v→w.cell? ⟨b,o+j,none⟩=some v) (hv:ofCells gg cs=some v) (hi:isCells cs=true) (r:RelL g d cs vs) :
  ∃ x,(Instr.loadAt ty (.pointer (some ⟨b,o,none⟩))).run P w=.ok x w∧Rel g d v x:=by
 have hlen:=relL_length r
 rcases rel_ofCells hv hi r with ⟨hgg,hr⟩ | ⟨hgg,x,hx,hr⟩
 ·refine ⟨_,?_,hr⟩
  have:=run_cells (P:=P) b o vs hc
  rw [← hlen,hl] at this
  simp [Instr.loadAt,Instr.sureAddr,loadVar,run_isAgg hg,hgg,run_sizeOf hn,this]
 ·refine ⟨x,?_,hr⟩
  have h0:=hc 0 x (by simp [hx])
  simp only [Nat.add_zero] at h0
  simp [Instr.loadAt,Instr.sureAddr,loadVar,run_isAgg hg,hgg,h0]
theorem run_part {ty n:Nat} {gg:Bool} {o:Nat} {cs:List V} {vs:List Value} {c:List V} {v:V} {d:Nat} (hn:szOf P ty=some n) (hg:aggOf P ty=some gg)
  (hc:cutL cs o n=some c) (hv:ofCells gg (c.map strip)=some v) (hi:isCells cs=true) (r:RelL g d cs vs) :
  ∃ x,(part ty ⟨vs⟩ o).run P w=.ok x w∧Rel g d v x∧isCalm v=true:=by
 unfold cutL at hc
 split at hc
 ·rename_i hle
  injection hc with hc; subst hc
  have hr:=relL_strip (relL_take n (relL_drop o r))
  have hi':isCells ((cs.drop o).take n)=true:=isCells_iff.2 fun y hy=>isCells_iff.1 hi y (List.mem_of_mem_drop (List.mem_of_mem_take hy))
  have hlen:=relL_length r
  rcases rel_ofCells hv (by rw [isCells_strip]; exact hi') hr with ⟨hgg,hr⟩ | ⟨hgg,x,hx,hr⟩
  ·refine ⟨_,?_,hr,isCalm_ofCells hv hi'⟩
   simp [part,run_isAgg hg,hgg,run_sizeOf hn]
  ·refine ⟨x,?_,hr,isCalm_ofCells hv hi'⟩
   have h0:vs[o]?=some x:=by
    have:((vs.drop o).take n)[0]?=some x:=by rw [hx]; rfl
    rw [List.getElem?_take] at this
    split at this
    ·rw [List.getElem?_drop] at this; simpa using this
    ·cases this
   simp [part,run_isAgg hg,hgg,h0]
 ·cases hc
end
end AM
end Go.Proofs.Ytimfbnojmdnlnaa
end
section
namespace Go.Proofs.Ytimfbnojmdnlnaa
namespace AM
section
variable {P:Program} {T:St} {g:Gh} {w:World} {nt:Nat} {F:Fr} {a:Act} {tk:Option Nat→Bool} {o:Oper} {cE:CE}
def Yields (P:Program) (T:St) (g:Gh) (w:World) (a:Act) (o:Oper) (v:V):Prop :=
 ∃ x,(execOp a.eval o).run P w=.ok (.value x) w∧Rel g T.length v x∧isCalm v=true
theorem y_move (hF:FrRel P T g w nt F a.tmps) {x:Operand} {X:Opd} {v:V} (he:o.op=.move x∨o.op=.assign x) (hx:opd x=some X) (hv:cp (evO F X)=some v):Yields P T g w a o v:=by
 refine ⟨a.eval x,?_,rel_cp hv (rel_opd hF hx),isCalm_cp hv⟩
 rcases he with he | he<;>simp [execOp,he]
theorem y_pick (hF:FrRel P T g w nt F a.tmps) {c x y:Operand} {C X Y:Opd} {v:V} {t:Bool} (he:o.op=.pick c x y) (hc:opd c=some C) (hx:opd x=some X) (hy:opd y=some Y)
  (ht:evO F C=.bool t) (hv:cp (if t then evO F X else evO F Y)=some v):Yields P T g w a o v:=by
 have hb:=rel_opd hF hc
 rw [ht] at hb
 simp only [Rel] at hb
 cases t
 ·exact ⟨a.eval y,by simp [execOp,he,hb,asBool],rel_cp hv (rel_opd hF hy),isCalm_cp hv⟩
 ·exact ⟨a.eval x,by simp [execOp,he,hb,asBool],rel_cp hv (rel_opd hF hx),isCalm_cp hv⟩
theorem atG_cell (I:Inv P T g w) {b o:Nat} {cs:List V} (h:AtG g b o cs):∃ vs,RelL g 0 cs vs∧isCells cs=true∧∀ (j:Nat) (x:Value),vs[j]?=some x→w.cell? ⟨b,o+j,none⟩=some x:=by
 induction cs generalizing o with
 | nil=>exact ⟨[],by simp [RelL],rfl,by simp⟩
 | cons c cs ih =>
  simp only [AtG] at h
  obtain ⟨⟨x,hx,hi,hr⟩,h2⟩:=h
  obtain ⟨vs,k1,k2,k3⟩:=ih h2
  refine ⟨x::vs,by simp only [RelL]; exact ⟨x,vs,rfl,hr,k1⟩,by simp [isCells,hi,k2],fun j y hy=>?_⟩
  cases j with
  | zero=>simp at hy; subst hy; exact (I.G b o x hx).1
  | succ j =>
   have:=k3 j y (by simpa using hy)
   rwa [show o+1+j=o+(j+1) from by omega] at this
theorem cutL_some {α:Type} {xs ys:List α} {o n:Nat} (h:cutL xs o n=some ys):o+n≤xs.length∧ys=(xs.drop o).take n∧ys.length=n:=by
 unfold cutL at h
 split at h
 ·injection h with h; subst h; refine ⟨‹_›,rfl,by simp; omega⟩
 ·cases h
theorem y_load (I:Inv P T g w) (hF:FrRel P T g w nt F a.tmps) {t n:Nat} {gg:Bool} {x:Operand} {X:Opd} {v:V} (he:o.op=.load t x) (hn:szOf P t=some n) (hg:aggOf P t=some gg) (hx:opd x=some X)
  (hv:valOp cE F T (.ld false n gg X)=some (.ret v)):Yields P T g w a o v:=by
 have hr:=rel_opd hF hx
 simp only [valOp] at hv
 split at hv
 ·rename_i cs hX
  rw [hX] at hr
  simp only [Rel] at hr
  obtain ⟨b,off,hxe,hat⟩:=hr
  simp only [Option.bind_eq_some_iff,Option.map_eq_some_iff] at hv
  obtain ⟨c,hc,u,hu,hv⟩:=hv
  simp at hv
  subst hv
  obtain ⟨h1,rfl,h3⟩:=cutL_some hc
  obtain ⟨vs,k1,k2,k3⟩:=atG_cell I (atG_take (atG_drop hat 0) n)
  obtain ⟨y,hy,hry⟩:=run_loadAt (P:=P) (w:=w) (vs:=vs) (b:=b) (o:=off+0) hn hg (by rw [List.length_map]; exact h3) k3 hu (by rw [isCells_strip]; exact k2) (relL_strip k1)
  refine ⟨y,?_,rel_mono (Le.refl 0 g) (Nat.zero_le _) _ _ hry,isCalm_ofCells hu k2⟩
  simp only [Nat.add_zero] at hy
  simp [execOp,he,hxe,hy]
 ·rename_i l i off hX
  rw [hX] at hr
  simp only [Rel] at hr
  obtain ⟨hl,hu0,hxe⟩:=hr
  simp only [Option.bind_eq_some_iff,Option.map_eq_some_iff] at hv
  obtain ⟨cs,hcs,c,hc,u,hu,hv⟩:=hv
  simp at hv
  subst hv
  obtain ⟨h1,rfl,h3⟩:=cutL_some hc
  obtain ⟨_,vs,ty,ex,hh,hi,hrel,_⟩:=I.B l i cs hcs
  have k2:isCells ((cs.drop off).take n)=true:=isCells_iff.2 fun y hy=>isCells_iff.1 hi y (List.mem_of_mem_drop (List.mem_of_mem_take hy))
  have k1:=relL_take n (relL_drop off hrel)
  obtain ⟨y,hy,hry⟩:=run_loadAt (P:=P) (w:=w) (vs:=(vs.drop off).take n) (b:=g.bx l i) (o:=off) hn hg (by rw [List.length_map]; exact h3) (fun j z hz=>by
   rw [List.getElem?_take] at hz
   split at hz
   ·rw [List.getElem?_drop] at hz
    exact cell_box hh hz
   ·cases hz) hu (by rw [isCells_strip]; exact k2) (relL_strip k1)
  refine ⟨y,?_,rel_mono (Le.refl _ g) (by omega) _ _ hry,isCalm_ofCells hu k2⟩
  simp [execOp,he,hxe,hy]
 ·cases hv
theorem y_nc (hF:FrRel P T g w nt F a.tmps) {x:Operand} {X:Opd} {v:V} (he:o.op=.nilCheck x) (hx:opd x=some X) (hv:valOp cE F T (.nc X)=some (.ret v)):Yields P T g w a o v:=by
 have hr:=rel_opd hF hx
 simp only [valOp] at hv
 split at hv
 ·rename_i l i off hX
  rw [hX] at hr
  simp at hv; subst hv
  have hr':=hr
  simp only [Rel] at hr
  obtain ⟨_,_,hxe⟩:=hr
  exact ⟨.pointer (some ⟨g.bx l i,off,none⟩),by simp [execOp,he,hxe],by rw [hxe] at hr'; exact hr',rfl⟩
 ·rename_i cs hX
  rw [hX] at hr
  simp at hv; subst hv
  have hr':=hr
  simp only [Rel] at hr
  obtain ⟨b,off,hxe,_⟩:=hr
  exact ⟨.pointer (some ⟨b,off,none⟩),by simp [execOp,he,hxe],by rw [hxe] at hr'; exact hr',rfl⟩
 ·cases hv
theorem arith_run {op:BinOp} {k:IntKind} {m n:Int} {v:V} (t:Nat) (h:arith op k m n=some v):∃ x,(binOp op t (.int k m) (.int k n)).run P w=.ok x w∧(∀ (g:Gh) (d:Nat),Rel g d v x)∧isCalm v=true:=by
 unfold arith at h
 split at h
 case h_13=>cases h
 case h_4 =>
  split at h
  ·cases h
  ·rename_i hn
   injection h with h; subst h
   exact ⟨_,by simp [binOp,Op.intDiv,hn]; rfl,fun _ _=>by simp [Rel],rfl⟩
 case h_5 =>
  split at h
  ·cases h
  ·rename_i hn
   injection h with h; subst h
   exact ⟨_,by simp [binOp,Op.intDiv,hn]; rfl,fun _ _=>by simp [Rel],rfl⟩
 all_goals
  injection h with h; subst h
  first
   | exact ⟨_,by simp [binOp,Op.intArith]; rfl,fun _ _=>by simp [Rel],rfl⟩
   | exact ⟨_,by simp [binOp,Op.intCmp]; rfl,fun _ _=>by simp [Rel],rfl⟩
   | exact ⟨_,by simp [binOp,Op.intBits]; rfl,fun _ _=>by simp [Rel],rfl⟩
theorem run_equalIn_bool {t:Nat} (hu:P.underlying t=some .bool) (d:Nat) (m n:Bool):(Op.equalIn (d+1) t (.bool m) (.bool n)).run P w=.ok (m == n) w:=by
 simp [Op.equalIn,run_underlying hu]
theorem bin_run {op:BinOp} {t tk:Nat} {X Y v:V} {x y:Value} (ht:tk=1→P.underlying t=some .bool) (h:bin op tk X Y=some v) {d:Nat} (rx:Rel g d X x) (ry:Rel g d Y y) (xo yo:Operand) :
  ∃ z,((do eqGuard op t xo yo x y; binOp op t x y:Sem Value)).run P w=.ok z w∧Rel g d v z∧isCalm v=true:=by
 unfold bin at h
 split at h
 ·rename_i k m k' n
  split at h
  ·rename_i hk
   subst hk
   simp only [Rel] at rx ry
   subst rx; subst ry
   obtain ⟨z,h1,h2,h3⟩:=arith_run (P:=P) (w:=w) t h
   refine ⟨z,?_,h2 g d,h3⟩
   have:eqGuard op t xo yo (.int k m) (.int k n)=pure ():=by cases op<;>rfl
   simp [this,h1]
  ·cases h
 ·rename_i m n
  simp only [Rel] at rx ry
  subst rx; subst ry
  have:eqGuard op t xo yo (.string m) (.string n)=pure ():=by cases op<;>rfl
  split at h
  ·injection h with h; subst h
   exact ⟨_,by simp [this,binOp,Op.stringOp]; rfl,by simp [Rel],rfl⟩
  ·injection h with h; subst h
   exact ⟨_,by simp [this,binOp,Op.stringOp]; rfl,by simp [Rel],rfl⟩
  ·split at h
   ·rename_i hle
    injection h with h; subst h
    have h2:¬ (((m.size+n.size:Nat):Int) > IntKind.i64.max):=by
     have:(IntKind.i64.max:Int)=9223372036854775807:=rfl
     rw [this]; omega
    refine ⟨.string (m++n),?_,by simp [Rel],rfl⟩
    simp only [this,Sem.run_bind,Sem.run_pure,Result.andThen_ok,binOp,Op.stringOp]
    rw [if_neg h2]
    rfl
   ·cases h
  ·cases h
 ·rename_i m n
  simp only [Rel] at rx ry
  subst rx; subst ry
  have:eqGuard op t xo yo (.bool m) (.bool n)=pure ():=by cases op<;>rfl
  split at h
  ·rename_i htk
   have hu:=ht htk
   split at h
   ·injection h with h; subst h
    refine ⟨.bool (m == n),?_,by simp [Rel],rfl⟩
    simp only [this,Sem.run_bind,Sem.run_pure,Result.andThen_ok,binOp,Op.equal,Op.maxDepth,run_equalIn_bool (w:=w) hu 9999]
   ·injection h with h; subst h
    refine ⟨.bool (!(m == n)),?_,by simp [Rel],rfl⟩
    simp only [this,Sem.run_bind,Sem.run_pure,Result.andThen_ok,binOp,Op.equal,Op.maxDepth,run_equalIn_bool (w:=w) hu 9999]
   ·cases h
  ·cases h
 ·cases h
theorem un_run {op:UnOp} {X v:V} {x:Value} (h:un op X=some v) {d:Nat} (rx:Rel g d X x):∃ z,(Op.unary op x).run P w=.ok z w∧Rel g d v z∧isCalm v=true:=by
 unfold un at h
 split at h
 ·injection h with h; subst h
  simp only [Rel] at rx; subst rx
  exact ⟨_,by simp [Op.unary,Op.intArith]; rfl,by simp [Rel],rfl⟩
 ·injection h with h; subst h
  simp only [Rel] at rx; subst rx
  exact ⟨_,by simp [Op.unary]; rfl,by simp [Rel],rfl⟩
 ·cases h
end
end AM
end Go.Proofs.Ytimfbnojmdnlnaa
end
section
namespace Go.Proofs.Ytimfbnojmdnlnaa
namespace AM
section
variable {P:Program} {T:St} {g:Gh} {w:World} {nt:Nat} {F:Fr} {a:Act} {tk:Option Nat→Bool} {o:Oper} {cE:CE}
theorem relL_setAt {d:Nat} {cs ds:List V} {xs ys:List Value} {off:Nat} (h:RelL g d cs xs) (k:RelL g d ds ys):RelL g d (setAt cs off ds) (xs.take off++ys++xs.drop (off+ys.length)):=by
 unfold setAt
 rw [← relL_length k]
 exact relL_append (relL_append (relL_take _ h) k) (relL_drop _ h)
theorem isCells_setAt {cs ds:List V} {off:Nat} (h:isCells cs=true) (k:isCells ds=true):isCells (setAt cs off ds)=true:=by
 refine isCells_iff.2 fun c hc=>?_
 unfold setAt at hc
 rcases List.mem_append.1 hc with hc | hc
 ·rcases List.mem_append.1 hc with hc | hc
  ·exact isCells_iff.1 h c (List.mem_of_mem_take hc)
  ·exact isCells_iff.1 k c hc
 ·exact isCells_iff.1 h c (List.mem_of_mem_drop hc)
theorem foldl_setAt (xs:List Value) (off:Nat) (v:Value) (h:off+v.cells.size≤xs.length) :
  v.cells.zipIdx.foldl (fun cs (c,j)=>cs.setIfInBounds (off+j) c) (⟨xs⟩:Array Value)=⟨xs.take off++v.cells.toList++xs.drop (off+v.cells.size)⟩:=by
 have e:v.cells.zipIdx.foldl (fun cs (c,j)=>cs.setIfInBounds (off+j) c) (⟨xs⟩:Array Value)=(v.cells.toList.zipIdx 0).foldl (fun cs (x:Value×Nat)=>cs.setIfInBounds (off+x.2) x.1) ⟨xs⟩:=by
  rw [← Array.foldl_toList,Array.toList_zipIdx]
 rw [e]
 obtain ⟨h1,h2⟩:=Great.foldl_set off v.cells.toList 0 ⟨xs⟩
 apply Array.ext_getElem?
 intro k
 rw [h2 k]
 simp only [Nat.add_zero,Array.length_toList,List.getElem?_toArray]
 have hl:v.cells.toList.length=v.cells.size:=by simp
 by_cases h3:off≤k∧k < off+v.cells.size∧k < xs.length
 ·rw [if_pos (by simpa using h3),List.append_assoc,List.getElem?_append_right (by simp; omega)]
  rw [List.getElem?_append_left (by simp; omega)]
  congr 1
  simp
  omega
 ·rw [if_neg (by simpa using h3)]
  rcases Nat.lt_or_ge k off with hk | hk
  ·rw [List.append_assoc,List.getElem?_append_left (by simp; omega),List.getElem?_take,if_pos hk]
  ·rw [List.getElem?_append_right (by simp; omega),List.getElem?_drop]
   simp only [List.length_append,List.length_take,hl]
   rcases Nat.lt_or_ge k xs.length with hx | hx
   ·congr 1
    omega
   ·rw [List.getElem?_eq_none (by omega),List.getElem?_eq_none (by omega)]
theorem fill_ok (hF:FrRel P T g w nt F a.tmps) {pl:Nat→Option (Nat×Nat)}:∀ {ps:List (Nat×Operand)} {qs:List (Nat×Nat×Opd)} {cs ds:List V} {xs:List Value},
  qs.length=ps.length→(∀ (j i:Nat) (x:Operand),ps[j]?=some (i,x)→∃ off n X,qs[j]?=some (off,n,X)∧pl i=some (off,n)∧opd x=some X) →
  fill F cs qs=some ds→isCells cs=true→RelL g T.length cs xs →
  ∃ ys,Instr.fill pl ⟨xs⟩ (ps.map fun (i,x)=>(i,a.eval x))=some ⟨ys⟩∧RelL g T.length ds ys∧isCells ds=true
 | [],qs,cs,ds,xs,hl,_,hf,hi,hr=>by
  cases qs with
  | nil=>simp [fill] at hf; subst hf; exact ⟨xs,rfl,hr,hi⟩
  | cons _ _=>simp at hl
 | (i,x)::ps,qs,cs,ds,xs,hl,hp,hf,hi,hr=>by
  cases qs with
  | nil=>simp at hl
  | cons q qs =>
   obtain ⟨off,n,X,hq,hpl,hX⟩:=hp 0 i x rfl
   simp at hq
   subst hq
   simp only [fill] at hf
   split at hf
   ·rename_i vs hvs
    split at hf
    ·rename_i hle
     obtain ⟨k1,k2⟩:=rel_cellsOf hvs (rel_strip (rel_opd hF hX))
     have hlen:=relL_length k1
     have hlen2:=relL_length hr
     have hsz:(a.eval x).cells.size=n:=by have:=hle.1; simp at hlen; omega
     have hr':RelL g T.length (setAt cs off vs) (xs.take off++(a.eval x).cells.toList++xs.drop (off+(a.eval x).cells.size)):=by
      have:=relL_setAt (off:=off) hr k1
      simpa using this
     obtain ⟨ys,h1,h2,h3⟩:=fill_ok hF (pl:=pl) (ps:=ps) (qs:=qs) (by simpa using hl) (fun j i' x' h=>by simpa using hp (j+1) i' x' (by simpa using h)) hf (isCells_setAt hi k2) hr'
     refine ⟨ys,?_,h2,h3⟩
     simp only [List.map_cons,Instr.fill,hpl]
     rw [if_neg (by simp [hsz]; omega),foldl_setAt xs off _ (by rw [hsz]; omega)]
     exact h1
    ·cases hf
   ·cases hf
theorem rel_zeroOf {t:Nat} {z:List V} {d:Nat} (h:zeroOf P t=some z):∃ i v,P.info? t=some i∧i.zero=some v∧RelL g d z v.cells.toList∧isCells z=true∧∀ u∈z, ∀ e ys,u≠.slice (.own e) ys:=by
 unfold zeroOf at h
 simp only [Option.bind_eq_some_iff] at h
 obtain ⟨v,⟨i,hi,hz⟩,hv⟩:=h
 obtain ⟨h1,h2,h3⟩:=relL_ofCells (g:=g) (d:=d) hv
 exact ⟨i,v,hi,hz,h1,h2,h3⟩
theorem y_build (hF:FrRel P T g w nt F a.tmps) {t:Nat} {ps:Array (Nat×Operand)} {op:AOp} {v:V} (he:o.op=.build t ps) (hc:compOp P tk o=some op) (hv:valOp cE F T op=some (.ret v)):Yields P T g w a o v:=by
 unfold compOp at hc
 rw [he] at hc
 simp only [Option.bind_eq_some_iff,Option.map_eq_some_iff] at hc
 obtain ⟨z,hz,pl,hpl,qs,hqs,rfl⟩:=hc
 obtain ⟨it,zv,hit,hzv,hzr,hzi,_⟩:=rel_zeroOf (P:=P) (g:=g) (d:=T.length) hz
 simp only [valOp,Option.map_eq_some_iff] at hv
 obtain ⟨ds,hds,hv⟩:=hv
 simp at hv
 subst hv
 obtain ⟨hl,hj⟩:=mapM_get hqs
 obtain ⟨ys,h1,h2,h3⟩:=fill_ok hF (pl:=pl) (ps:=ps.toList) (qs:=qs) hl (fun j i x hx=>by
  obtain ⟨q,hq,hf⟩:=hj j (i,x) hx
  simp only [Option.bind_eq_some_iff,Option.map_eq_some_iff] at hf
  obtain ⟨r,hr,X,hX,rfl⟩:=hf
  exact ⟨r.1,r.2,X,hq,hr,hX⟩) hds hzi hzr
 have hb:P.built t (ps.map fun (i,x)=>(i,a.eval x)).toList=some ⟨ys⟩:=by
  have e:(⟨zv.cells.toList⟩:Array Value)=zv.cells:=by simp
  rw [e] at h1
  rw [Array.toList_map]
  unfold placesOf at hpl
  split at hpl
  ·rename_i fs hu
   obtain ⟨places,hp,rfl⟩:=Option.map_eq_some_iff.1 hpl
   simp only [Program.built,hit,hu,hzv,hp]
   exact h1
  ·rename_i n e hu
   obtain ⟨ie,hp,rfl⟩:=Option.map_eq_some_iff.1 hpl
   simp only [Program.built,hit,hu,hzv,hp]
   exact h1
  ·cases hpl
 refine ⟨.agg ⟨ys⟩,?_,by simp only [Rel]; exact ⟨ys,rfl,h3,h2⟩,rfl⟩
 simp only [execOp,he,Sem.run_bind,run_build w t _ _ hb,Result.andThen_ok]
 rfl
theorem y_un (hF:FrRel P T g w nt F a.tmps) {op:UnOp} {t:Nat} {x:Operand} {X:Opd} {v:V} (he:o.op=.unOp op t x) (hx:opd x=some X) (hv:un op (evO F X)=some v):Yields P T g w a o v:=by
 obtain ⟨z,h1,h2,h3⟩:=un_run (P:=P) (w:=w) hv (rel_opd hF hx)
 exact ⟨z,by simp [execOp,he,h1],h2,h3⟩
theorem y_bin (hF:FrRel P T g w nt F a.tmps) {op:BinOp} {t k u:Nat} {x y:Operand} {X Y:Opd} {v:V} (he:o.op=.binOp op t x y u) (hk:tkOf P t=some k) (hx:opd x=some X) (hy:opd y=some Y) (hv:bin op k (evO F X) (evO F Y)=some v):Yields P T g w a o v:=by
 have ht:k=1→P.underlying t=some .bool:=by
  intro hk1
  unfold tkOf at hk
  split at hk<;>simp_all
 obtain ⟨z,h1,h2,h3⟩:=bin_run (P:=P) (w:=w) (t:=t) ht hv (rel_opd hF hx) (rel_opd hF hy) x y
 refine ⟨z,?_,h2,h3⟩
 simp only [execOp,he]
 rw [Sem.run_bind,h1]
 rfl
theorem y_conv (hF:FrRel P T g w nt F a.tmps) {s d:Nat} {ks k k':IntKind} {n:Int} {x:Operand} {X:Opd} (he:o.op=.convert s d x) (hs:P.underlying s=some (.int ks)) (hd:P.underlying d=some (.int k)) (hx:opd x=some X) (hX:evO F X=.int k' n) :
  Yields P T g w a o (.int k (k.wrap n)):=by
 have hr:=rel_opd hF hx
 rw [hX] at hr
 simp only [Rel] at hr
 refine ⟨.int k (k.wrap n),?_,by simp [Rel],rfl⟩
 simp [execOp,he,hr,convert,run_underlying hs,run_underlying hd,Conv.intToInt]
theorem y_fn (hF:FrRel P T g w nt F a.tmps) {f:Nat} {cs:Array Operand} {Cs:List Opd} (he:o.op=.makeFunc (.func f) #[] cs) (hc:opds cs=some Cs) (ht:tames (Cs.map fun c=>evO F c)=true) :
  Yields P T g w a o (.func (.func f) (Cs.map fun c=>strip (evO F c))):=by
 have hr:=relL_strip (rel_opds hF hc)
 rw [List.map_map] at hr
 refine ⟨.func (.func f) #[] ⟨cs.toList.map a.eval⟩,?_,by simp only [Rel]; exact ⟨_,_,rfl,hr,rfl⟩,rfl⟩
 simp [execOp,he,Instr.makeFunc]
 apply Array.ext'
 simp
theorem y_mki (hF:FrRel P T g w nt F a.tmps) {t:Nat} {d:TypeDesc} {x:Operand} {X:Opd} {v:V} (he:o.op=.makeInterface t x) (hu:P.underlying t=some d) (hd:(match d with | .interface _=>false | _=>true)=true) (hx:opd x=some X)
  (hv:valOp cE F T (.mki t X)=some (.ret v)):Yields P T g w a o v:=by
 have hr:=rel_opd hF hx
 simp only [valOp] at hv
 have hrun:(execOp a.eval o).run P w=.ok (.value (.iface t (a.eval x))) w:=by
  simp only [execOp,he,Instr.makeInterface,Sem.run_bind,run_underlying hu,Result.andThen_ok]
  cases d<;>first | rfl | simp at hd
 split at hv
 ·simp at hv; subst hv
  exact ⟨_,hrun,by simp only [Rel]; exact ⟨_,rfl,rel_strip hr⟩,rfl⟩
 ·split at hv
  ·rename_i cs hX
   simp at hv; subst hv
   rw [hX] at hr
   exact ⟨_,hrun,by simp only [Rel] at hr ⊢; exact ⟨_,rfl,hr⟩,rfl⟩
  ·cases hv
theorem y_fa (I:Inv P T g w) (hF:FrRel P T g w nt F a.tmps) {s i n:Nat} {fs:Array Field} {f:Field} {x:Operand} {X:Opd} {v:V} (he:o.op=.fieldAddr s x i) (hu:P.underlying s=some (.struct fs)) (hf:fs[i]?=some f) (hn:szOf P f.type=some n) (h0:n≠0)
  (hx:opd x=some X) (hv:valOp cE F T (.fa f.offset X)=some (.ret v)):Yields P T g w a o v:=by
 have hr:=rel_opd hF hx
 simp only [valOp] at hv
 have hplace:∀ b off,a.eval x=.pointer (some ⟨b,off,none⟩)→(execOp a.eval o).run P w=.ok (.value (.pointer (some ⟨b,off+f.offset,none⟩))) w:=by
  intro b off hxe
  simp [execOp,he,Instr.fieldAt,run_underlying hu,hf,hxe,Instr.sureAddr,fieldPlace,run_sizeOf hn,h0,add_lit]
 split at hv
 ·rename_i l j off hX
  rw [hX] at hr
  simp at hv; subst hv
  simp only [Rel] at hr
  exact ⟨_,hplace _ _ hr.2.2,by simp only [Rel]; exact ⟨hr.1,hr.2.1,trivial⟩,rfl⟩
 ·rename_i cs hX
  rw [hX] at hr
  simp only [Rel] at hr
  obtain ⟨b,off,hxe,hat⟩:=hr
  split at hv
  ·simp at hv; subst hv
   exact ⟨_,hplace _ _ hxe,by simp only [Rel]; exact ⟨b,_,rfl,atG_drop hat _⟩,rfl⟩
  ·cases hv
 ·cases hv
theorem y_fd (hF:FrRel P T g w nt F a.tmps) {s i n:Nat} {gg:Bool} {fs:Array Field} {f:Field} {x:Operand} {X:Opd} {v:V} (he:o.op=.field s x i) (hu:P.underlying s=some (.struct fs)) (hf:fs[i]?=some f) (hn:szOf P f.type=some n) (hg:aggOf P f.type=some gg)
  (hx:opd x=some X) (hv:valOp cE F T (.fd f.offset n gg X)=some (.ret v)):Yields P T g w a o v:=by
 have hr:=rel_opd hF hx
 simp only [valOp] at hv
 split at hv
 ·rename_i cs hX
  rw [hX] at hr
  simp only [Rel] at hr
  obtain ⟨vs,hxe,hi,hrel⟩:=hr
  simp only [Option.bind_eq_some_iff,Option.map_eq_some_iff] at hv
  obtain ⟨c,hc,u,hu',hv⟩:=hv
  simp at hv; subst hv
  obtain ⟨y,h1,h2,h3⟩:=run_part (P:=P) (w:=w) hn hg hc hu' hi hrel
  refine ⟨y,?_,h2,h3⟩
  simp only [execOp,he,Instr.field,Sem.run_bind,run_underlying hu,Result.andThen_ok,hf,hxe,asAgg,Sem.run_pure,h1]
 ·cases hv
theorem y_ia (hF:FrRel P T g w nt F a.tmps) {t e n:Nat} {x y:Operand} {X Y:Opd} {v:V} (he:o.op=.indexAddr t x y) (hu:P.underlying t=some (.slice e)) (hn:szOf P e=some n) (hx:opd x=some X) (hy:opd y=some Y)
  (hv:valOp cE F T (.ia n X Y)=some (.ret v)):Yields P T g w a o v:=by
 have hr:=rel_opd hF hx
 have hs:=rel_opd hF hy
 simp only [valOp] at hv
 split at hv
 ·rename_i sk xs k j hX hY
  rw [hX] at hr
  rw [hY] at hs
  simp only [Rel] at hr hs
  obtain ⟨ad,m,c,hxe,hm,_,⟨u,hun⟩,hrow,hsp,_⟩:=hr
  split at hv
  ·rename_i hj0
   split at hv
   ·rename_i cs hcs
    split at hv
    ·rename_i hlen
     simp at hv; subst hv
     have hjl:=(List.getElem?_eq_some_iff.1 hcs).1
     have hun':u=n:=by rw [← hun cs (List.mem_of_getElem? hcs)]; exact hlen
     subst hun'
     obtain ⟨⟨b,off,sp⟩,rfl,hat⟩:=rowsG_at hrow hun hcs
     have hsp':=hsp (by rintro rfl; simp at hcs) _ rfl
     simp at hsp'
     subst hsp'
     refine ⟨.pointer (some ⟨b,off+j.toNat*u,none⟩),?_,by simp only [Rel]; exact ⟨b,_,rfl,hat⟩,rfl⟩
     have hin:0≤j∧j < (m:Int):=by subst hm; omega
     simp [execOp,he,hxe,hs,Instr.indexAt,asIntOf,run_underlying hu,run_sizeOf hn,hin,add_lit]
    ·cases hv
   ·cases hv
  ·cases hv
 ·rename_i l i o' k m e' k' j hX hY
  rw [hX] at hr
  rw [hY] at hs
  simp only [Rel] at hr hs
  obtain ⟨hl,c,ha,hkc,hcm,hxe⟩:=hr
  split at hv
  ·rename_i hj
   simp at hv; subst hv
   refine ⟨.pointer (some ⟨g.bx l i,o'+j.toNat*n,none⟩),?_,by simp only [Rel]; exact ⟨hl,⟨_,ha⟩,trivial⟩,rfl⟩
   have hin:0≤j∧j < (k:Int):=⟨hj.1,hj.2.1⟩
   simp [execOp,he,hxe,hs,Instr.indexAt,asIntOf,run_underlying hu,run_sizeOf hn,hin,add_lit]
  ·cases hv
 ·cases hv
theorem y_sx (hF:FrRel P T g w nt F a.tmps) {t:Nat} {x y:Operand} {X Y:Opd} {v:V} (he:o.op=.index t x y) (hu:P.underlying t=some .string) (hx:opd x=some X) (hy:opd y=some Y)
  (hv:valOp cE F T (.sx X Y)=some (.ret v)):Yields P T g w a o v:=by
 have hr:=rel_opd hF hx
 have hs:=rel_opd hF hy
 simp only [valOp] at hv
 split at hv
 ·rename_i s k j hX hY
  rw [hX] at hr
  rw [hY] at hs
  simp only [Rel] at hr hs
  split at hv
  ·rename_i hj0
   split at hv
   ·rename_i b hb
    simp at hv; subst hv
    refine ⟨.int .u8 b.toNat,?_,by simp [Rel],rfl⟩
    have hb':s[j.toNat]?=some b:=by
     have h1:=(List.getElem?_eq_some_iff.1 hb)
     obtain ⟨h2,h3⟩:=h1
     have h4:j.toNat < s.size:=by simpa using h2
     rw [getElem?_pos s j.toNat h4]
     congr 1
    simp [execOp,he,hr,hs,Instr.index,asIntOf,run_underlying hu,hj0,hb']
   ·cases hv
  ·cases hv
 ·cases hv
theorem y_ax (hF:FrRel P T g w nt F a.tmps) {t e n len:Nat} {gg:Bool} {x y:Operand} {X Y:Opd} {v:V} (he:o.op=.index t x y) (hu:P.underlying t=some (.array len e)) (hn:szOf P e=some n) (hg:aggOf P e=some gg) (hx:opd x=some X) (hy:opd y=some Y)
  (hv:valOp cE F T (.ax n len gg X Y)=some (.ret v)):Yields P T g w a o v:=by
 have hr:=rel_opd hF hx
 have hs:=rel_opd hF hy
 simp only [valOp] at hv
 split at hv
 ·rename_i cs k j hX hY
  rw [hX] at hr
  rw [hY] at hs
  simp only [Rel] at hr hs
  obtain ⟨vs,hxe,hi,hrel⟩:=hr
  split at hv
  ·rename_i hj
   simp only [Option.bind_eq_some_iff,Option.map_eq_some_iff] at hv
   obtain ⟨c,hc,u,hu',hv⟩:=hv
   simp at hv; subst hv
   obtain ⟨z,h1,h2,h3⟩:=run_part (P:=P) (w:=w) hn hg hc hu' hi hrel
   refine ⟨z,?_,h2,h3⟩
   simp only [execOp,he,hs,Instr.index,asIntOf,Sem.run_bind,Sem.run_pure,Result.andThen_ok,run_underlying hu,hxe]
   rw [if_pos hj]
   simp only [Sem.run_bind,run_sizeOf hn,Result.andThen_ok,h1]
  ·cases hv
 ·cases hv
theorem y_ex (hF:FrRel P T g w nt F a.tmps) {i:Nat} {x:Operand} {X:Opd} {v:V} (he:o.op=.extract x i) (hx:opd x=some X) (hv:valOp cE F T (.ex X i)=some (.ret v)):Yields P T g w a o v:=by
 have hr:=rel_opd hF hx
 simp only [valOp] at hv
 split at hv
 ·rename_i vs hX
  rw [hX] at hr
  simp only [Rel] at hr
  obtain ⟨xs,hxe,hrel⟩:=hr
  simp only [Option.bind_eq_some_iff,Option.map_eq_some_iff] at hv
  obtain ⟨u,hu,u',hu',hv⟩:=hv
  simp at hv; subst hv
  obtain ⟨y,hy,hry⟩:=relL_at hrel hu
  refine ⟨y,?_,rel_cp hu' hry,isCalm_cp hu'⟩
  simp [execOp,he,hxe,Instr.extract,hy]
 ·cases hv
theorem y_len (hF:FrRel P T g w nt F a.tmps) {t:Nat} {sb:Bool} {x:Operand} {X:Opd} {v:V} (he:o.op=.call { callee:=.builtin .len,args:=#[x],argTypes:=#[t] })
  (hu:if sb=true then P.underlying t=some .string else ∃ e,P.underlying t=some (.slice e)) (hx:opd x=some X) (hv:valOp cE F T (.len sb X)=some (.ret v)):Yields P T g w a o v:=by
 have hr:=rel_opd hF hx
 simp only [valOp] at hv
 split at hv
 ·rename_i k xs hX
  rw [hX] at hr
  split at hv
  ·rename_i hsb
   subst hsb
   simp at hv; subst hv
   obtain ⟨e,hu⟩:∃ e,P.underlying t=some (.slice e):=by simpa using hu
   simp only [Rel] at hr
   obtain ⟨ad,m,c,hxe,hm,_⟩:=hr
   subst hm
   refine ⟨.int .i64 xs.length,?_,by simp [Rel],rfl⟩
   simp [execOp,he,hxe,resolve,invoke,builtin,Builtin.len_,run_underlying hu,goInt]
  ·cases hv
 ·rename_i l i o' k m e' hX
  rw [hX] at hr
  split at hv
  ·rename_i hsb
   subst hsb
   simp at hv; subst hv
   obtain ⟨e,hu⟩:∃ e,P.underlying t=some (.slice e):=by simpa using hu
   simp only [Rel] at hr
   obtain ⟨hlt,c,ha,hkc,hcm,hxe⟩:=hr
   refine ⟨.int .i64 k,?_,by simp [Rel],rfl⟩
   simp [execOp,he,hxe,resolve,invoke,builtin,Builtin.len_,run_underlying hu,goInt]
  ·cases hv
 ·rename_i s hX
  rw [hX] at hr
  split at hv
  ·rename_i hsb
   subst hsb
   simp at hv; subst hv
   have hu:P.underlying t=some .string:=by simpa using hu
   simp only [Rel] at hr
   refine ⟨.int .i64 s.size,?_,by simp [Rel],rfl⟩
   simp [execOp,he,hr,resolve,invoke,builtin,Builtin.len_,run_underlying hu,goInt]
  ·cases hv
 ·cases hv
theorem y_mm (hF:FrRel P T g w nt F a.tmps) {mx:Bool} {ts:Array TypeId} {x y:Operand} {X Y:Opd} {v:V} (he:o.op=.call { callee:=.builtin (if mx then .max else .min),args:=#[x,y],argTypes:=ts }) (hx:opd x=some X) (hy:opd y=some Y)
  (hv:valOp cE F T (.mm mx X Y)=some (.ret v)):Yields P T g w a o v:=by
 have hr:=rel_opd hF hx
 have hs:=rel_opd hF hy
 simp only [valOp] at hv
 split at hv
 ·rename_i k m k' n hX hY
  rw [hX] at hr
  rw [hY] at hs
  simp only [Rel] at hr hs
  split at hv
  ·rename_i hk
   subst hk
   simp at hv; subst hv
   cases mx
   ·refine ⟨.int k (if n < m then n else m),?_,by simp [Rel],rfl⟩
    simp [execOp,he,hr,hs,resolve,invoke,builtin,Builtin.min_,Builtin.min2]
   ·refine ⟨.int k (if n > m then n else m),?_,by simp [Rel],rfl⟩
    simp [execOp,he,hr,hs,resolve,invoke,builtin,Builtin.max_,Builtin.max2]
  ·cases hv
 ·cases hv
theorem y_isn (hF:FrRel P T g w nt F a.tmps) {op:BinOp} {neg:Bool} {t e u:Nat} {x:Operand} {X:Opd} {v:V} (he:o.op=.binOp op t x (.const (.slice none 0 0)) u) (hop:op=if neg then .neq else .eql) (hu:P.underlying t=some (.slice e)) (hx:opd x=some X)
  (hv:valOp cE F T (.isn neg X)=some (.ret v)):Yields P T g w a o v:=by
 have hr:=rel_opd hF hx
 simp only [valOp] at hv
 split at hv
 ·rename_i k xs hX
  rw [hX] at hr
  simp at hv; subst hv
  simp only [Rel] at hr
  obtain ⟨ad,m,c,hxe,_,_,_,_,_,hk⟩:=hr
  refine ⟨.bool (isNilK k != neg),?_,by simp [Rel],rfl⟩
  have hz:a.eval (.const (.slice none 0 0))=.slice none 0 0:=rfl
  have hnil:ad.isNone=isNilK k:=by
   cases k with
   | nil=>rw [hk.1]; rfl
   | shut=>cases ad with
    | none=>exact absurd rfl hk
    | some _=>rfl
   | own _=>cases ad with
    | none=>exact absurd rfl hk
    | some _=>rfl
  have heq:∀ d,(Op.equalIn (d+1) t (.slice ad m c) (.slice none 0 0)).run P w=.ok (isNilK k) w:=by
   intro d
   cases ad with
   | none=>simp [Op.equalIn,run_underlying hu, ← hnil]
   | some _=>simp [Op.equalIn,run_underlying hu, ← hnil]
  cases neg<;>simp only [Bool.false_eq_true,if_false,if_true] at hop<;>subst hop
  ·simp [execOp,he,hxe,hz,eqGuard,binOp,Op.equal,Op.maxDepth,heq 9999]
  ·simp [execOp,he,hxe,hz,eqGuard,binOp,Op.equal,Op.maxDepth,heq 9999]
 ·rename_i l i o' k m e' hX
  rw [hX] at hr
  simp at hv; subst hv
  simp only [Rel] at hr
  obtain ⟨hl,c,ha,hkc,hcm,hxe⟩:=hr
  refine ⟨.bool (false != neg),?_,by simp [Rel],rfl⟩
  have hz:a.eval (.const (.slice none 0 0))=.slice none 0 0:=rfl
  have heq:∀ d,(Op.equalIn (d+1) t (.slice (some ⟨g.bx l i,o',none⟩) k c) (.slice none 0 0)).run P w=.ok false w:=by
   intro d
   simp [Op.equalIn,run_underlying hu]
  cases neg<;>simp only [Bool.false_eq_true,if_false,if_true] at hop<;>subst hop
  ·simp [execOp,he,hxe,hz,eqGuard,binOp,Op.equal,Op.maxDepth,heq 9999]
  ·simp [execOp,he,hxe,hz,eqGuard,binOp,Op.equal,Op.maxDepth,heq 9999]
 ·cases hv
theorem rel_bnd (hF:FrRel P T g w nt F a.tmps) {x:Option Operand} {X:Option Opd} {n h:Nat} (hx:opdO x=some X) (hb:bndHi F n X=some h):(x=none∧h=n)∨∃ y k,x=some y∧a.eval y=.int k h∧h≤n:=by
 cases x with
 | none =>
  simp [opdO] at hx; subst hx
  simp [bndHi] at hb; subst hb
  exact .inl ⟨rfl,rfl⟩
 | some y =>
  simp only [opdO,Option.map_eq_some_iff] at hx
  obtain ⟨Y,hY,rfl⟩:=hx
  simp only [bndHi,natIn] at hb
  split at hb
  ·rename_i k i hYe
   split at hb
   ·rename_i hi
    injection hb with hb; subst hb
    have:=rel_opd hF hY
    rw [hYe] at this
    simp only [Rel] at this
    exact .inr ⟨y,k,rfl,by rw [this]; congr 1; omega,by omega⟩
   ·cases hb
  ·cases hb
theorem rel_bndLo (hF:FrRel P T g w nt F a.tmps) {x:Option Operand} {X:Option Opd} {n h:Nat} (hx:opdO x=some X) (hb:bndLo F n X=some h):(x=none∧h=0)∨∃ y k,x=some y∧a.eval y=.int k h∧h≤n:=by
 cases x with
 | none =>
  simp [opdO] at hx; subst hx
  simp [bndLo] at hb; subst hb
  exact .inl ⟨rfl,rfl⟩
 | some y =>
  simp only [opdO,Option.map_eq_some_iff] at hx
  obtain ⟨Y,hY,rfl⟩:=hx
  simp only [bndLo,natIn] at hb
  split at hb
  ·rename_i k i hYe
   split at hb
   ·rename_i hi
    injection hb with hb; subst hb
    have:=rel_opd hF hY
    rw [hYe] at this
    simp only [Rel] at this
    exact .inr ⟨y,k,rfl,by rw [this]; congr 1; omega,by omega⟩
   ·cases hb
  ·cases hb
theorem run_bounds (hF:FrRel P T g w nt F a.tmps) {lo hi:Option Operand} {Lo Hi:Option Opd} {sl:Bool} {n c l h:Nat} (hlo:opdO lo=some Lo) (hhi:opdO hi=some Hi) (hb:bndHi F n Hi=some h) (hl:bndLo F h Lo=some l) (hc:n≤c) :
  (Instr.sliceBounds sl n c (lo.map a.eval) (hi.map a.eval) none).run P w=.ok (l,h,c) w∧l≤h∧h≤n:=by
 rcases rel_bnd hF hhi hb with ⟨rfl,rfl⟩ | ⟨y,k,rfl,hy,hle⟩<;>rcases rel_bndLo hF hlo hl with ⟨rfl,rfl⟩ | ⟨z,k',rfl,hz,hle'⟩
 ·exact ⟨by simp [Instr.sliceBounds],Nat.zero_le _,Nat.le_refl _⟩
 ·refine ⟨?_,hle',Nat.le_refl _⟩
  simp [Instr.sliceBounds,Instr.sliceBound,hz,asIntOf,hle']
 ·refine ⟨?_,Nat.zero_le _,hle⟩
  have:h≤c:=Nat.le_trans hle hc
  cases sl<;>simp [Instr.sliceBounds,Instr.sliceBound,hy,asIntOf,this]
 ·refine ⟨?_,hle',hle⟩
  have:h≤c:=Nat.le_trans hle hc
  cases sl<;>simp [Instr.sliceBounds,Instr.sliceBound,hy,hz,asIntOf,this,hle']
theorem y_scut (hF:FrRel P T g w nt F a.tmps) {t:Nat} {x:Operand} {lo hi:Option Operand} {X:Opd} {Lo Hi:Option Opd} {v:V} (he:o.op=.slice t x lo hi none) (hu:P.underlying t=some .string) (hx:opd x=some X) (hlo:opdO lo=some Lo) (hhi:opdO hi=some Hi)
  (hv:valOp cE F T (.scut X Lo Hi)=some (.ret v)):Yields P T g w a o v:=by
 have hr:=rel_opd hF hx
 simp only [valOp] at hv
 split at hv
 ·rename_i s hX
  rw [hX] at hr
  simp only [Rel] at hr
  simp only [Option.bind_eq_some_iff] at hv
  obtain ⟨h,hb,l,hl,hv⟩:=hv
  simp at hv; subst hv
  obtain ⟨h1,h2,h3⟩:=run_bounds (P:=P) (sl:=false) hF hlo hhi hb hl (Nat.le_refl _)
  refine ⟨.string (s.extract l h),?_,by simp [Rel],rfl⟩
  simp only [execOp,he,Instr.sliceAt,Sem.run_bind,run_underlying hu,Result.andThen_ok,Instr.slice,hr,Option.map_none,Option.isSome_none,Bool.false_eq_true,if_false,h1,Sem.run_pure]
 ·cases hv
theorem y_cut (hF:FrRel P T g w nt F a.tmps) {t e n:Nat} {x:Operand} {lo hi:Option Operand} {X:Opd} {Lo Hi:Option Opd} {v:V} (he:o.op=.slice t x lo hi none) (hu:P.underlying t=some (.slice e)) (hn:szOf P e=some n) (hx:opd x=some X) (hlo:opdO lo=some Lo) (hhi:opdO hi=some Hi)
  (hv:valOp cE F T (.cut n X Lo Hi)=some (.ret v)):Yields P T g w a o v:=by
 have hr:=rel_opd hF hx
 simp only [valOp] at hv
 split at hv
 ·rename_i k xs hX
  rw [hX] at hr
  simp only [Rel] at hr
  obtain ⟨ad,m,c,hxe,hm,hmc,⟨u,hun⟩,hrow,hsp,hk⟩:=hr
  subst hm
  split at hv
  ·rename_i hlen
   simp only [Option.bind_eq_some_iff] at hv
   obtain ⟨h,hb,l,hl,hv⟩:=hv
   simp at hv; subst hv
   obtain ⟨h1,h2,h3⟩:=run_bounds (P:=P) (sl:=true) hF hlo hhi hb hl hmc
   have hrun:(execOp a.eval o).run P w=.ok (.value (.slice (if c=l then ad else ad.map (·.add (l*n))) (h - l) (c - l))) w:=by
    simp [execOp,he,Instr.sliceAt,Instr.slice,run_underlying hu,hxe,h1,run_sizeOf hn]
   refine ⟨_,hrun,?_,by cases k<;>rfl⟩
   simp only [Rel]
   refine ⟨_,_,_,rfl,by simp; omega,by omega,⟨u,fun r hr=>hun r (List.mem_of_mem_take (List.mem_of_mem_drop hr))⟩,?_,?_,?_⟩
   rotate_right
   ·cases k with
    | nil =>
     obtain ⟨rfl,rfl⟩:=hk
     exact ⟨by split<;>rfl,by omega⟩
    | shut=>show (if c=l then ad else ad.map (·.add (l*n)))≠none; cases ad with
     | none=>exact absurd rfl hk
     | some ad=>split<;>simp
    | own e'=>show (if c=l then ad else ad.map (·.add (l*n)))≠none; cases ad with
     | none=>exact absurd rfl hk
     | some ad=>split<;>simp
   ·-- the rows of what is left
    by_cases hcl:c=l
    ·have:(xs.take h).drop l=[]:=List.drop_eq_nil_of_le (by simp; omega)
     rw [this]
     cases (if c=l then ad else ad.map (·.add (l*n)))<;>simp [RowsG]
    ·rw [if_neg hcl]
     cases ad with
     | none =>
      cases xs with
      | nil=>simp [RowsG]
      | cons y ys=>simp [RowsG] at hrow
     | some ad =>
      by_cases hx0:xs=[]
      ·subst hx0; simp [RowsG]
      obtain ⟨b,off,sp⟩:=ad
      have hsp':=hsp hx0 _ rfl
      simp at hsp'
      subst hsp'
      simp only [Option.map_some,add_lit]
      have k1:=rowsG_take (rowsG_drop hrow l) (h - l)
      rw [List.drop_take]
      have:ahead xs l=l*n:=by
       rcases Nat.eq_zero_or_pos xs.length with h0 | h0
       ·have:xs=[]:=List.eq_nil_of_length_eq_zero h0
        subst this
        have:l=0:=by simp at h3; omega
        subst this
        simp [ahead]
       ·have:u=n:=by
         obtain ⟨y,hy⟩:∃ y,y∈xs:=List.exists_mem_of_length_pos h0
         rw [← hun y hy]
         have:=List.all_eq_true.1 hlen y hy
         simpa using this
        subst this
        exact ahead_len hun l (by omega)
      rw [← this]
      exact k1
   ·intro hne ad' had
    have hx0:xs≠[]:=by rintro rfl; simp at hne
    split at had
    ·exact hsp hx0 ad' had
    ·cases ad with
     | none=>simp at had
     | some ad =>
      simp at had
      subst had
      have:=hsp hx0 _ rfl
      unfold Addr.add
      split
      ·exact this
      ·rfl
  ·cases hv
 ·rename_i lv i o' k m e' hX
  rw [hX] at hr
  simp only [Rel] at hr
  obtain ⟨hlt,c,ha,hkc,hcm,hxe⟩:=hr
  split at hv
  ·rename_i hmn
   subst hmn
   simp only [Option.bind_eq_some_iff] at hv
   obtain ⟨h,hb,l,hl,hv⟩:=hv
   simp at hv; subst hv
   obtain ⟨h1,h2,h3⟩:=run_bounds (P:=P) (sl:=true) hF hlo hhi hb hl hkc
   have hrun:(execOp a.eval o).run P w=.ok (.value (.slice (if c=l then some ⟨g.bx lv i,o',none⟩ else some ((⟨g.bx lv i,o',none⟩:Addr).add (l*m))) (h - l) (c - l))) w:=by
    simp [execOp,he,Instr.sliceAt,Instr.slice,run_underlying hu,hxe,h1,run_sizeOf hn]
   refine ⟨_,hrun,?_,by split<;>rfl⟩
   split
   ·rename_i hc0
    have hp:(if c=l then some (⟨g.bx lv i,o',none⟩:Addr) else some ((⟨g.bx lv i,o',none⟩:Addr).add (l*m)))=some ⟨g.bx lv i,o'+l*m,none⟩:=by
     split
     ·rename_i hcl
      have:l=0:=by omega
      subst this; simp
     ·rw [add_lit]
    rw [hp]
    simp only [Rel]
    refine ⟨hlt,c - l,?_,by omega,by omega,rfl⟩
    rw [ha]
    have hlc:l≤c:=by omega
    have:l*m+(c - l)*m=c*m:=by rw [← Nat.add_mul]; congr 1; omega
    congr 2
    omega
   ·simp only [Rel]
    refine ⟨_,_,_,rfl,by simp; omega,by omega,⟨0,by simp⟩,?_,by simp,?_⟩
    ·cases (if c=l then some (⟨g.bx lv i,o',none⟩:Addr) else some ((⟨g.bx lv i,o',none⟩:Addr).add (l*m)))<;>simp [RowsG]
    ·split<;>simp
  ·cases hv
 ·cases hv
end
end AM
end Go.Proofs.Ytimfbnojmdnlnaa
end
section
namespace Go.Proofs.Ytimfbnojmdnlnaa
namespace AM
section
variable {P:Program} {T:St} {g:Gh} {w:World} {nt:Nat} {F:Fr} {a:Act} {tk:Option Nat→Bool} {o:Oper} {cE:CE}
theorem valOp_ok (I:Inv P T g w) (hF:FrRel P T g w nt F a.tmps) {op:AOp} {v:V} (hc:compOp P tk o=some op) (hv:valOp cE F T op=some (.ret v))
  (hrow:∀ e n ps,op≠.row e n ps) (hcall:∀ f xs,op≠.call f xs):Yields P T g w a o v:=by
 have hc0:=hc
 unfold compOp at hc
 split at hc
 ·rename_i x he
  obtain ⟨X,hX,rfl⟩:=Option.map_eq_some_iff.1 hc
  cases ht:tk o.dst<;>rw [ht] at hv<;>simp only [valOp,Option.map_eq_some_iff,reduceCtorEq] at hv
  obtain ⟨u,hu,hv⟩:=hv
  simp at hv; subst hv
  exact y_move hF (.inl he) hX hu
 ·rename_i x he
  obtain ⟨X,hX,rfl⟩:=Option.map_eq_some_iff.1 hc
  simp [valOp] at hv
 ·rename_i c x y he
  simp only [Option.bind_eq_some_iff,Option.map_eq_some_iff] at hc
  obtain ⟨C,hC,X,hX,Y,hY,rfl⟩:=hc
  simp only [valOp] at hv
  split at hv
  ·rename_i t ht
   simp only [Option.map_eq_some_iff] at hv
   obtain ⟨u,hu,hv⟩:=hv
   simp at hv; subst hv
   exact y_pick hF he hC hX hY ht hu
  ·cases hv
 ·obtain ⟨z,hz,rfl⟩:=Option.map_eq_some_iff.1 hc
  simp [valOp] at hv
 ·simp only [Option.bind_eq_some_iff,Option.map_eq_some_iff] at hc
  obtain ⟨n,hn,X,hX,rfl⟩:=hc
  simp [valOp] at hv
 ·rename_i t ps he
  exact y_build hF he hc0 hv
 ·split at hc
  ·split at hc
   ·simp only [Option.bind_eq_some_iff,Option.map_eq_some_iff] at hc
    obtain ⟨n,hn,_,_,qs,hqs,rfl⟩:=hc
    exact absurd rfl (hrow _ _ _)
   ·cases hc
  ·cases hc
 ·rename_i t x he
  simp only [Option.bind_eq_some_iff,Option.map_eq_some_iff] at hc
  obtain ⟨n,hn,gg,hg,X,hX,rfl⟩:=hc
  cases ht:tk o.dst<;>rw [ht] at hv
  ·exact y_load I hF he hn hg hX hv
  ·simp [valOp] at hv
 ·split at hc
  ·simp only [Option.bind_eq_some_iff] at hc
   obtain ⟨i,hi,z,hz,hc⟩:=hc
   split at hc
   ·simp only [Option.bind_eq_some_iff,Option.map_eq_some_iff] at hc
    obtain ⟨X,hX,Y,hY,rfl⟩:=hc
    simp [valOp] at hv
   ·cases hc
  ·cases hc
 ·simp only [Option.bind_eq_some_iff,Option.map_eq_some_iff] at hc
  obtain ⟨n,hn,X,hX,Y,hY,rfl⟩:=hc
  simp [valOp] at hv
 ·rename_i x he
  obtain ⟨X,hX,rfl⟩:=Option.map_eq_some_iff.1 hc
  exact y_nc hF he hX hv
 ·rename_i op' t x y u he
  split at hc
  ·rename_i e hu
   obtain ⟨X,hX,rfl⟩:=Option.map_eq_some_iff.1 hc
   exact y_isn hF he rfl hu hX hv
  ·rename_i e hu
   obtain ⟨X,hX,rfl⟩:=Option.map_eq_some_iff.1 hc
   exact y_isn hF he rfl hu hX hv
  ·simp only [Option.bind_eq_some_iff,Option.map_eq_some_iff] at hc
   obtain ⟨k,hk,X,hX,Y,hY,rfl⟩:=hc
   simp only [valOp,Option.map_eq_some_iff] at hv
   obtain ⟨z,hz,hv⟩:=hv
   simp at hv; subst hv
   exact y_bin hF he hk hX hY hz
 ·rename_i op' t x he
  obtain ⟨X,hX,rfl⟩:=Option.map_eq_some_iff.1 hc
  simp only [valOp,Option.map_eq_some_iff] at hv
  obtain ⟨z,hz,hv⟩:=hv
  simp at hv; subst hv
  exact y_un hF he hX hz
 ·rename_i s d x he
  split at hc
  ·rename_i ks k hs hd
   obtain ⟨X,hX,rfl⟩:=Option.map_eq_some_iff.1 hc
   simp only [valOp] at hv
   split at hv
   ·rename_i k' n hXe
    simp at hv; subst hv
    exact y_conv hF he hs hd hX hXe
   ·cases hv
  ·cases hc
 ·rename_i t x he
  split at hc
  ·cases hc
  ·rename_i d hd hu
   obtain ⟨X,hX,rfl⟩:=Option.map_eq_some_iff.1 hc
   exact y_mki hF he hu (by cases d<;>first | rfl | exact absurd rfl (hd _)) hX hv
  ·cases hc
 ·rename_i f fs cs he
  split at hc
  ·rename_i hfs
   have hfs':fs=#[]:=Array.ext' hfs
   subst hfs'
   obtain ⟨X,hX,rfl⟩:=Option.map_eq_some_iff.1 hc
   simp only [valOp] at hv
   split at hv
   ·rename_i ht
    simp at hv; subst hv
    exact y_fn hF he hX ht
   ·cases hv
  ·cases hc
 ·rename_i t x lo hi he
  split at hc
  ·rename_i e hu
   simp only [Option.bind_eq_some_iff,Option.map_eq_some_iff] at hc
   obtain ⟨n,hn,X,hX,Lo,hLo,Hi,hHi,rfl⟩:=hc
   exact y_cut hF he hu hn hX hLo hHi hv
  ·rename_i hu
   simp only [Option.bind_eq_some_iff,Option.map_eq_some_iff] at hc
   obtain ⟨X,hX,Lo,hLo,Hi,hHi,rfl⟩:=hc
   exact y_scut hF he hu hX hLo hHi hv
  ·cases hc
 ·rename_i s x i he
  split at hc
  ·rename_i fs hu
   simp only [Option.bind_eq_some_iff] at hc
   obtain ⟨f,hf,n,hn,hc⟩:=hc
   split at hc
   ·cases hc
   ·rename_i h0
    obtain ⟨X,hX,rfl⟩:=Option.map_eq_some_iff.1 hc
    exact y_fa I hF he hu hf hn h0 hX hv
  ·cases hc
 ·rename_i s x i he
  split at hc
  ·rename_i fs hu
   simp only [Option.bind_eq_some_iff,Option.map_eq_some_iff] at hc
   obtain ⟨f,hf,n,hn,gg,hg,X,hX,rfl⟩:=hc
   exact y_fd hF he hu hf hn hg hX hv
  ·cases hc
 ·rename_i t x i he
  split at hc
  ·rename_i e hu
   simp only [Option.bind_eq_some_iff,Option.map_eq_some_iff] at hc
   obtain ⟨n,hn,X,hX,Y,hY,rfl⟩:=hc
   exact y_ia hF he hu hn hX hY hv
  ·cases hc
 ·rename_i t x i he
  split at hc
  ·rename_i hu
   simp only [Option.bind_eq_some_iff,Option.map_eq_some_iff] at hc
   obtain ⟨X,hX,Y,hY,rfl⟩:=hc
   exact y_sx hF he hu hX hY hv
  ·rename_i n e hu
   simp only [Option.bind_eq_some_iff,Option.map_eq_some_iff] at hc
   obtain ⟨m,hm,gg,hg,X,hX,Y,hY,rfl⟩:=hc
   exact y_ax hF he hu hm hg hX hY hv
  ·cases hc
 ·rename_i x i he
  obtain ⟨X,hX,rfl⟩:=Option.map_eq_some_iff.1 hc
  exact y_ex hF he hX hv
 ·rename_i c he
  obtain ⟨callee,args,tys⟩:=c
  unfold compCall at hc
  simp only at hc
  split at hc
  ·unfold compBuiltin at hc
   split at hc
   ·rename_i x t h1 h2
    have e1:args=#[x]:=Array.ext' h1
    have e2:tys=#[t]:=Array.ext' h2
    subst e1; subst e2
    split at hc
    ·rename_i e hu
     obtain ⟨X,hX,rfl⟩:=Option.map_eq_some_iff.1 hc
     exact y_len hF he (by simpa using ⟨e,hu⟩) hX hv
    ·rename_i hu
     obtain ⟨X,hX,rfl⟩:=Option.map_eq_some_iff.1 hc
     exact y_len hF he (by simpa using hu) hX hv
    ·cases hc
   ·split at hc
    ·simp only [Option.bind_eq_some_iff] at hc
     obtain ⟨i,hi,z,hz,hc⟩:=hc
     split at hc
     ·simp only [Option.bind_eq_some_iff,Option.map_eq_some_iff] at hc
      obtain ⟨X,hX,Y,hY,rfl⟩:=hc
      simp [valOp] at hv
     ·cases hc
    ·cases hc
   ·rename_i x y h1
    have e1:args=#[x,y]:=Array.ext' h1
    subst e1
    simp only [Option.bind_eq_some_iff,Option.map_eq_some_iff] at hc
    obtain ⟨X,hX,Y,hY,rfl⟩:=hc
    exact y_mm (mx:=true) hF (by simpa using he) hX hY hv
   ·rename_i x y h1
    have e1:args=#[x,y]:=Array.ext' h1
    subst e1
    simp only [Option.bind_eq_some_iff,Option.map_eq_some_iff] at hc
    obtain ⟨X,hX,Y,hY,rfl⟩:=hc
    exact y_mm (mx:=false) hF (by simpa using he) hX hY hv
   ·cases hc
  ·split at hc
   ·obtain ⟨X,hX,rfl⟩:=Option.map_eq_some_iff.1 hc
    exact absurd rfl (hcall _ _)
   ·simp only [Option.bind_eq_some_iff,Option.map_eq_some_iff] at hc
    obtain ⟨X,hX,Y,hY,rfl⟩:=hc
    simp [valOp] at hv
  ·simp only [Option.bind_eq_some_iff,Option.map_eq_some_iff] at hc
   obtain ⟨X,hX,Y,hY,rfl⟩:=hc
   simp [valOp] at hv
 ·obtain ⟨X,hX,rfl⟩:=Option.map_eq_some_iff.1 hc
  simp [valOp] at hv
 ·cases hc
end
end AM
end Go.Proofs.Ytimfbnojmdnlnaa
end
section
namespace Go.Proofs.Ytimfbnojmdnlnaa
namespace AM
def fen (ro:Option Nat):Fence:={ Fence.wide with round:=ro }
theorem wpIn_of_run {P:Program} {o:Oper} {a:Act} {w:World} {K:Act→World→Prop} {Q:Exit→Act→World→Prop} {r:Result Next} {ro:Option Nat} (hnd:∀ c,o.op≠.defer c)
  (hrun:(execOp a.eval o).run P w=r) (h:o.uponIn (fen ro) 0 P a K Q r):o.wpIn (fen ro) 0 P a w K Q :=
 ⟨fun _ _=>trivial,by rw [Oper.semAt_eq _ _ _ hnd,hrun]; exact h⟩
theorem compOp_defer {P:Program} {tk:Option Nat→Bool} {o:Oper} {op:AOp} (h:compOp P tk o=some op):∀ c,o.op≠.defer c:=by
 intro c e
 unfold compOp at h
 rw [e] at h
 cases h
def Flat:St→Prop
 | ⟨_,none⟩::_=>True
 | _=>False
theorem Flat.lp {T:St} (h:Flat T) {l:Nat} {p:Lp} (hp:getLp T l=some p):l+1 < T.length:=by
 match T,h with
 | ⟨bs,none⟩::R,_ =>
  simp only [getLp] at hp
  split at hp
  ·cases hp
  ·have:=getLp_lt hp; simp; omega
theorem Flat.pos {T:St} (h:Flat T):∃ bs R,T=⟨bs,none⟩::R:=by
 match T,h with
 | ⟨bs,none⟩::R,_=>exact ⟨bs,R,rfl⟩
theorem Flat.addBox {T:St} (h:Flat T) (l:Nat) (z:List V):Flat (addBox T l z):=by
 obtain ⟨bs,R,rfl⟩:=h.pos
 simp only [AM.addBox]
 split<;>trivial
theorem Flat.setBox {T:St} (h:Flat T) (l i:Nat) (cs:List V):Flat (setBox T l i cs):=by
 obtain ⟨bs,R,rfl⟩:=h.pos
 simp only [AM.setBox]
 split<;>trivial
structure StepTo (P:Program) (T:St) (g:Gh) (w:World) (a:Act) (nt:Nat) (T':St) (F':Fr) (g':Gh) (w':World) (a':Act):Prop where
 le:Le T.length g g'
 frm:Frm g w g' w'
 inv:Inv P T' g' w'
 fr:FrRel P T' g' w' nt F' a'.tmps
 len:T'.length=T.length
 flat:Flat T'
 defs:a'.defers=a.defers
 marks:∀ b,b < w.heap.size→g.use b=.mark→g'.use b=.mark∧w'.heap[b]?=w.heap[b]?
theorem StepTo.trans {P:Program} {T T1 T2:St} {g g1 g2:Gh} {w w1 w2:World} {a a1 a2:Act} {nt:Nat} {F1 F2:Fr} (h:StepTo P T g w a nt T1 F1 g1 w1 a1) (k:StepTo P T1 g1 w1 a1 nt T2 F2 g2 w2 a2):StepTo P T g w a nt T2 F2 g2 w2 a2:={
 le:=h.le.trans (by have:=k.le; rwa [h.len] at this)
 frm:=h.frm.trans k.frm
 inv:=k.inv
 fr:=k.fr
 len:=k.len.trans h.len
 flat:=k.flat
 defs:=k.defs.trans h.defs
 marks b hb hu:=by
  obtain ⟨u1,e1⟩:=h.marks b hb hu
  obtain ⟨u2,e2⟩:=k.marks b (Nat.lt_of_lt_of_le hb h.frm.size) u1
  exact ⟨u2,e2.trans e1⟩ }
section
variable {P:Program} {T:St} {g:Gh} {w:World} {nt:Nat} {F:Fr} {a:Act} {tk:Option Nat→Bool} {o:Oper} {cE:CE}
theorem TmpAt.calm {t:Nat} {v:V} {x:Value} (h:isCalm v=true) (r:Rel g T.length v x):TmpAt P T g w t v x:={
 rel:=r
 own e xs hv:=by subst hv; cases h
 fresh z hv:=by subst hv; cases h
 mir l i o e xs hv:=by subst hv; cases h }
theorem put_defs (a:Act) (d:Option Nat) (x:Value):(a.put d x).defers=a.defers:=by cases d<;>rfl
theorem FrRel.eval {F:Fr} (hF:FrRel P T g w nt F a.tmps) (hfl:Flat T) (I:Inv P T g w):StepTo P T g w a nt T F g w a :=
 ⟨Le.refl _ _,Frm.refl _ _,I,hF,rfl,hfl,rfl,fun _ _ h=>⟨h,rfl⟩⟩
theorem step_quiet (I:Inv P T g w) (hF:FrRel P T g w nt F a.tmps) (hfl:Flat T) {d:Option Nat} (hd:inNt nt d=true) {v:V} {x:Value} (hv:∀ t,d=some t→TmpAt P T g w t v x):StepTo P T g w a nt T (putO F d v) g w (a.put d x) :=
 ⟨Le.refl _ _,Frm.refl _ _,I,FrRel.put hF.size hF.past hd (fun t y _ hy=>hF.tmp t y hy) hv,rfl,hfl,put_defs _ _ _,fun _ _ h=>⟨h,rfl⟩⟩
theorem FrRel.strip (hF:FrRel P T g w nt F a.tmps) (s:Nat):FrRel P T g w nt (AM.put F s (AM.strip (F s))) a.tmps:={
 size:=hF.size
 past t ht:=by
  by_cases e:t=s
  ·subst e; rw [put_same,hF.past t ht]; rfl
  ·rw [put_ne _ _ e]; exact hF.past t ht
 tmp t x hx:=by
  by_cases e:t=s
  ·subst e
   rw [put_same]
   have h:=hF.tmp t x hx
   refine ⟨rel_strip h.rel,fun e xs hv=>absurd hv strip_own,fun z hv=>h.fresh z ?_,fun l i o e xs hv=>h.mir l i o e xs ?_⟩
   ·revert hv; cases hFt:F t<;>simp [AM.strip]
    rename_i k _; cases k<;>simp
   ·revert hv; cases hFt:F t<;>simp [AM.strip]
    rename_i k _; cases k<;>simp
  ·rw [put_ne _ _ e]; exact hF.tmp t x hx }
theorem use_lt (I:Inv P T g w) {b:Nat} (h:g.use b≠.free):b < w.heap.size:=Nat.lt_of_not_le fun hb=>h (I.U b hb)
theorem G_lt (I:Inv P T g w) {b o:Nat} {v:Value} (h:g.G b o=some v):b < w.heap.size:=World.block_lt_of_cell? w _ (I.G b o v h).1
def Gh.lay (g:Gh) (b n:Nat) (u:Use) (c:List Value):Gh:=⟨fun b' o=>if b'=b∧o < n then c[o]? else g.G b' o,g.bx,g.lp,fun b'=>if b'=b then u else g.use b',g.al⟩
theorem le_lay (I:Inv P T g w) {b n:Nat} {u:Use} {c:List Value} (m:Nat) (hb:∀ o v,g.G b o=some v→o < n→c[o]?=some v) (hu:(∀ l i,g.use b≠.box l i)∧∀ l,g.use b≠.loop l):Le m g (g.lay b n u c):={
 G b' o v h:=by
  simp only [Gh.lay]
  split
  ·rename_i e; obtain ⟨rfl,ho⟩:=e; exact hb o v h ho
  ·exact h
 bx l i p _ h:=⟨rfl,h⟩
 lp l _ h:=by
  refine ⟨rfl,?_⟩
  simp only [Gh.lay]
  split
  ·rename_i e; rw [e] at h; exact absurd h (hu.2 l)
  ·exact h }
def OfTmp (so:Option Nat) (u:Use):Prop:=∃ s,so=some s∧u=.row (.tmp s)
theorem ofTmp_free {so:Option Nat}:¬ OfTmp so .free:=by rintro ⟨s,_,h⟩; cases h
theorem ofTmp_box {so:Option Nat} {l i:Nat}:¬ OfTmp so (.box l i):=by rintro ⟨s,_,h⟩; cases h
theorem ofTmp_cell {so:Option Nat} {l i j:Nat}:¬ OfTmp so (.row (.cell l i j)):=by rintro ⟨s,_,h⟩; cases h
theorem ofTmp_loop {so:Option Nat} {l:Nat}:¬ OfTmp so (.loop l):=by rintro ⟨s,_,h⟩; cases h
theorem ofTmp_mark {so:Option Nat}:¬ OfTmp so .mark:=by rintro ⟨s,_,h⟩; cases h
theorem relL_flat {g:Gh} {b:Nat}:∀ {xs:List (List V)} {vs:List Value} {o:Nat},RelL g 0 xs.flatten vs→isCells xs.flatten=true→(∀ (j:Nat) (v:Value),vs[j]?=some v→g.G b (o+j)=some v)→RowsG g (some ⟨b,o,none⟩) xs
 | [],_,_,_,_,_=>by simp [RowsG]
 | x::xs,vs,o,hr,hi,hG=>by
  simp only [List.flatten_cons] at hr hi
  simp only [RowsG]
  have hl:=relL_length hr
  simp only [List.length_append] at hl
  constructor
  ·refine atG_of fun j c hc=>?_
   have hj:=(List.getElem?_eq_some_iff.1 hc).1
   have hc':(x++xs.flatten)[j]?=some c:=by rw [List.getElem?_append_left hj]; exact hc
   obtain ⟨v,hv,hrv⟩:=relL_at hr hc'
   exact ⟨v,hG j v hv,isCells_iff.1 hi c (List.mem_of_getElem? hc'),hrv⟩
  ·refine relL_flat (vs:=vs.drop x.length) ?_ (isCells_iff.2 fun c hc=>isCells_iff.1 hi c (List.mem_append_right _ hc)) fun j v hv=>?_
   ·have:=relL_drop x.length hr
    simpa using this
   ·rw [List.getElem?_drop] at hv
    have:=hG _ v hv
    rwa [← Nat.add_assoc] at this
theorem rowsG_vals {g:Gh}:∀ {ad:Option Addr} {xs:List (List V)},RowsG g ad xs→∃ vs,RelL g 0 xs.flatten vs∧isCells xs.flatten=true∧∀ b o,ad=some ⟨b,o,none⟩→∀ (j:Nat) (v:Value),vs[j]?=some v→g.G b (o+j)=some v
 | _,[],_=>⟨[],by simp [RelL],rfl,by simp⟩
 | none,_::_,h=>by simp [RowsG] at h
 | some ad,x::xs,h=>by
  simp only [RowsG] at h
  obtain ⟨vs,h1,h2,h3⟩:=rowsG_vals h.2
  obtain ⟨us,k1,k2,k3⟩:∃ us,RelL g 0 x us∧isCells x=true∧∀ (j:Nat) (v:Value),us[j]?=some v→g.G ad.block (ad.off+j)=some v:=by
   have hat:=h.1
   generalize ad.off=o at hat
   induction x generalizing o with
   | nil=>exact ⟨[],by simp [RelL],rfl,by simp⟩
   | cons c cs ih =>
    simp only [AtG] at hat
    obtain ⟨⟨v,hv,hi,hr⟩,hat⟩:=hat
    have h2':RowsG g (some ⟨ad.block,ad.off+cs.length,none⟩) xs∨True:=.inr trivial
    obtain ⟨us,k1,k2,k3⟩:∃ us,RelL g 0 cs us∧isCells cs=true∧∀ (j:Nat) (v:Value),us[j]?=some v→g.G ad.block (o+1+j)=some v:=by
     clear ih h h2' h3 hv hr
     generalize o+1=o' at hat
     induction cs generalizing o' with
     | nil=>exact ⟨[],by simp [RelL],rfl,by simp⟩
     | cons c' cs' ih =>
      simp only [AtG] at hat
      obtain ⟨⟨v,hv,hi,hr⟩,hat⟩:=hat
      obtain ⟨us,k1,k2,k3⟩:=ih (o'+1) hat
      refine ⟨v::us,by simp only [RelL]; exact ⟨v,us,rfl,hr,k1⟩,by simp [isCells,hi,k2],fun j u hu=>?_⟩
      cases j with
      | zero=>simp at hu; subst hu; exact hv
      | succ j =>
       have:=k3 j u (by simpa using hu)
       rwa [show o'+1+j=o'+(j+1) from by omega] at this
    refine ⟨v::us,by simp only [RelL]; exact ⟨v,us,rfl,hr,k1⟩,by simp [isCells,hi,k2],fun j u hu=>?_⟩
    cases j with
    | zero=>simp at hu; subst hu; exact hv
    | succ j =>
     have:=k3 j u (by simpa using hu)
     rwa [show o+1+j=o+(j+1) from by omega] at this
  refine ⟨us++vs,?_,?_,fun b o hbo j v hv=>?_⟩
  ·simp only [List.flatten_cons]; exact relL_append k1 h1
  ·simp only [List.flatten_cons]
   exact isCells_iff.2 fun c hc=>(List.mem_append.1 hc).elim (isCells_iff.1 k2 c) (isCells_iff.1 h2 c)
  ·injection hbo with hbo
   subst hbo
   have hlx:=relL_length k1
   rcases Nat.lt_or_ge j us.length with hj | hj
   ·rw [List.getElem?_append_left hj] at hv
    exact k3 j v hv
   ·rw [List.getElem?_append_right hj] at hv
    have:=h3 _ _ rfl _ v hv
    rwa [show o+x.length+(j - us.length)=o+j from by omega] at this
theorem length_flat {n:Nat}:∀ {xs:List (List V)},(∀ r∈xs,r.length=n)→xs.flatten.length=xs.length*n
 | [],_=>by simp
 | x::xs,h=>by
  simp only [List.flatten_cons,List.length_append,List.length_cons,Nat.succ_mul]
  rw [h x (by simp),length_flat fun r hr=>h r (by simp [hr]),Nat.add_comm]
theorem step_own (I:Inv P T g w) (hF:FrRel P T g w nt F a.tmps) (hfl:Flat T) {d so:Option Nat} (hd:inNt nt d=true) {b e n cap:Nat} {xs:List (List V)} {cells:List Value} {w':World}
  (hn:szOf P e=some n) (hn0:0 < n) (hlen:∀ r∈xs,r.length=n) (hown:w'.ownsRow 0 e n (.slice (some ⟨b,0,none⟩) xs.length cap) xs.length cells)
  (hr:RelL g 0 xs.flatten cells) (hi:isCells xs.flatten=true)
  (hos:w'.os=w.os) (htp:w'.tape=w.tape) (hout:w'.output=w.output) (hsz:w.heap.size≤w'.heap.size) (hold:∀ k,k < w.heap.size→k≠b→w'.heap[k]?=w.heap[k]?)
  (hb:b < w.heap.size→OfTmp so (g.use b)) (hb':b < w'.heap.size)
  (hG:∀ o v,g.G b o=some v→o < xs.length*n∧cells[o]?=some v)
  (hs:∀ s,so=some s→isCalm (F s)=true) :
  ∃ g',StepTo P T g w a nt T (putO F d (.slice (.own e) xs)) g' w' (a.put d (.slice (some ⟨b,0,none⟩) xs.length cap)):=by
 let u:Use:=match d with | some d=>.row (.tmp d) | none=>.free
 let g':=g.lay b (xs.length*n) u cells
 have hfree:w.heap.size≤b→g.use b=.free:=I.U b
 have hnb:(∀ l i,g.use b≠.box l i)∧∀ l,g.use b≠.loop l:=by
  rcases Nat.lt_or_ge b w.heap.size with h | h
  ·obtain ⟨s,_,hu⟩:=hb h
   rw [hu]; exact ⟨fun _ _=>by simp,fun _=>by simp⟩
  ·rw [hfree h]; exact ⟨fun _ _=>by simp,fun _=>by simp⟩
 have hle:∀ m,Le m g g':=fun m=>le_lay I m (fun o v h _=>(hG o v h).2) hnb
 have hsame:Same (OfTmp so) g w g' w':=⟨hos,htp,hout,hsz,fun k hk hu=>by
  have hkb:k≠b:=fun e=>hu (e ▸ hb (e ▸ hk))
  refine ⟨hold k hk hkb,?_,fun o=>?_⟩
  ·simp [g',Gh.lay,hkb]
  ·simp [g',Gh.lay,hkb]⟩
 have hcell:∀ j v,j < xs.length*n→cells[j]?=some v→w'.cell? ⟨b,j,none⟩=some v:=fun j v hj hv=>by rw [hown.cellAt j hj]; exact hv
 have hcl:=hown.1
 have hinv:Inv P T g' w':=by
  refine I.step hsame (hle _) (fun b' o v hv hc=>?_) (fun b' hb''=>?_) (fun l i cs hc=>.inl ⟨hc,ofTmp_box,fun j=>ofTmp_cell⟩) (fun l p hp=>.inl ⟨hp,ofTmp_loop,hfl.lp hp⟩) (fun l i hl hn=>?_)
  ·by_cases hbb:b'=b
   ·subst hbb
    have hu':g'.use b'=u:=by simp [g',Gh.lay]
    refine ⟨?_,by rw [hu']; cases d<;>simp [u]⟩
    simp only [g',Gh.lay,true_and] at hv
    split at hv
    ·exact hcell o v ‹_› hv
    ·obtain ⟨h1,h2⟩:=hG o v hv
     exact hcell o v h1 h2
   ·have hv':g.G b' o=some v:=by simpa [g',Gh.lay,hbb] using hv
    have hlt:=G_lt I hv'
    obtain ⟨h1,h2⟩:=I.G b' o v hv'
    refine ⟨by rw [cell?_eq (hold b' hlt hbb)]; exact h1,?_⟩
    simpa [g',Gh.lay,hbb] using h2
  ·have:b'≠b:=by omega
   simp only [g',Gh.lay,this,if_false]
   exact I.U b' (by omega)
  ·exact I.N l i hl hn
 refine ⟨g',hle _,hsame.frm ofTmp_free,hinv,?_,rfl,hfl,put_defs _ _ _,fun k hk hu=>?_⟩
 ·refine FrRel.put hF.size hF.past hd (fun t y hne hy=>?_) (fun t ht=>?_)
  ·by_cases hts:so=some t
   ·refine TmpAt.calm (hs t hts) (rel_mono (hle _) (Nat.le_refl _) _ _ (hF.tmp t y hy).rel)
   ·exact (hF.tmp t y hy).same I hsame (hle _) rfl (by rintro ⟨s,h1,h2⟩; cases h2; exact hts h1) (.inr ⟨rfl,fun _ _=>ofTmp_box⟩)
  ·subst ht
   have hrel:Rel g' T.length (.slice (.own e) xs) (.slice (some ⟨b,0,none⟩) xs.length cap):=by
    simp only [Rel]
    have hcap:xs.length≤cap:=by
     rcases hown.2 with ⟨h,_⟩ | ⟨g0,cap0,cur,h,_,_,h1,_⟩
     ·cases h
     ·cases h; exact h1
    refine ⟨_,_,_,rfl,rfl,hcap,⟨n,hlen⟩,relL_flat (vs:=cells) (relL_mono (hle 0) (Nat.le_refl _) _ _ hr) hi (fun j v hv=>?_),fun _ ad had=>by cases had; rfl,by simp⟩
    have hj:j < cells.length:=(List.getElem?_eq_some_iff.1 hv).1
    simp only [g',Gh.lay,Nat.zero_add]
    rw [if_pos ⟨trivial,by rw [← hcl]; exact hj⟩]
    exact hv
   refine ⟨hrel,fun e' xs' hv=>?_,fun z hv=>by simp at hv,fun l i o e xs hv=>by simp at hv⟩
   simp only [V.slice.injEq,SK.own.injEq] at hv
   obtain ⟨rfl,rfl⟩:=hv
   refine ⟨n,cells,hn,hn0,hlen,hown,fun b' hb''=>?_⟩
   simp only [Value.ownBlock,Option.some.injEq] at hb''
   subst hb''
   refine ⟨by simp [g',Gh.lay,u],fun o v hv=>?_⟩
   simp only [g',Gh.lay,true_and] at hv
   split at hv
   ·assumption
   ·exact (hG o v hv).1
 ·obtain ⟨h1,h2,_⟩:=hsame.old k hk (by rw [hu]; exact ofTmp_mark)
  exact ⟨h2.trans hu,h1⟩
end
end AM
end Go.Proofs.Ytimfbnojmdnlnaa
end
section
namespace Go.Proofs.Ytimfbnojmdnlnaa
namespace AM
section
variable {P:Program} {T:St} {g:Gh} {w:World} {nt:Nat} {F:Fr} {a:Act} {tk:Option Nat→Bool} {o:Oper} {cE:CE}
theorem rows_ok (hF:FrRel P T g w nt F a.tmps) {n:Nat}:∀ {ps:List Operand} {Ps:List Opd} {xs:List (List V)},ps.mapM opd=some Ps→rows F n Ps=some xs →
  RelL g 0 xs.flatten ((ps.map a.eval).flatMap fun v=>v.cells.toList)∧isCells xs.flatten=true∧(∀ r∈xs,r.length=n)∧xs.length=ps.length∧∀ v∈ps.map a.eval,v.cells.size=n
 | [],Ps,xs,h,hr=>by
  simp at h; subst h
  simp [rows] at hr; subst hr
  simp [RelL,isCells]
 | p::ps,Ps,xs,h,hr=>by
  simp only [List.mapM_cons,Option.pure_def,Option.bind_eq_bind,Option.bind_eq_some_iff] at h
  obtain ⟨X,hX,Xs,hXs,h⟩:=h
  simp at h; subst h
  simp only [rows] at hr
  split at hr
  ·rename_i vs hvs
   split at hr
   ·rename_i hc
    simp only [Option.map_eq_some_iff] at hr
    obtain ⟨ys,hys,rfl⟩:=hr
    obtain ⟨h1,h2,h3,h4,h5⟩:=rows_ok hF hXs hys
    obtain ⟨k1,k2⟩:=rel_cellsOf hvs (rel_strip (rel_opd hF hX))
    have k1':=relL_low _ _ hc.2 k1
    have hsz:(a.eval p).cells.size=n:=by
     have:=relL_length k1
     simp at this
     omega
    refine ⟨?_,?_,?_,by simp [h4],?_⟩
    ·simp only [List.flatten_cons,List.map_cons,List.flatMap_cons]
     exact relL_append k1' h1
    ·simp only [List.flatten_cons]
     exact isCells_iff.2 fun c hc=>(List.mem_append.1 hc).elim (isCells_iff.1 k2 c) (isCells_iff.1 h2 c)
    ·intro r hr
     rcases List.mem_cons.1 hr with rfl | hr
     ·exact hc.1
     ·exact h3 r hr
    ·intro v hv
     simp only [List.map_cons] at hv
     rcases List.mem_cons.1 hv with rfl | hv
     ·exact hsz
     ·exact h5 v hv
   ·cases hr
  ·cases hr
def isVal:AOp→Bool
 | .pick ..=>true
 | .bld ..=>true
 | .nc _=>true
 | .bin ..=>true
 | .un ..=>true
 | .cv ..=>true
 | .mki ..=>true
 | .fn ..=>true
 | .cut ..=>true
 | .scut ..=>true
 | .fa ..=>true
 | .fd ..=>true
 | .ia ..=>true
 | .sx ..=>true
 | .ax ..=>true
 | .ex ..=>true
 | .len ..=>true
 | .mm ..=>true
 | .isn ..=>true
 | _=>false
inductive CompOf (P:Program) (tk:Option Nat→Bool) (o:Oper):AOp→Prop where
 | move (x:Operand) (X:Opd):o.op=.move x→opd x=some X→CompOf P tk o (.mv (tk o.dst) X)
 | assign (x:Operand) (X:Opd):o.op=.assign x→opd x=some X→CompOf P tk o (.mv true X)
 | alloc (e:Nat) (z:List V):o.op=.alloc e→zeroOf P e=some z→CompOf P tk o (.al z)
 | box (e n:Nat) (x:Operand) (X:Opd):o.op=.box e x→szOf P e=some n→opd x=some X→CompOf P tk o (.box n X)
 | row (t e len n:Nat) (ps:Array (Nat×Operand)) (z:List V) (Ps:List Opd):o.op=.buildSlice t len ps→P.underlying t=some (.slice e)→ps.toList.map (·.1)=List.range len→szOf P e=some n→zeroOf P e=some z →
   (ps.toList.mapM fun p=>opd p.2)=some Ps→CompOf P tk o (.row e n Ps)
 | mk (t e:Nat) (x y:Operand) (X Y:Opd) (i:TypeInfo) (z:List V):o.op=.makeSlice t x y→P.underlying t=some (.slice e)→P.info? e=some i→zeroOf P e=some z→z.length=i.size→opd x=some X→opd y=some Y→CompOf P tk o (.mk e i.size i.bytes z X Y)
 | load (t n:Nat) (gg:Bool) (x:Operand) (X:Opd):o.op=.load t x→szOf P t=some n→aggOf P t=some gg→opd x=some X→CompOf P tk o (.ld (tk o.dst) n gg X)
 | store (t n:Nat) (x y:Operand) (X Y:Opd):o.op=.store t x y→szOf P t=some n→opd x=some X→opd y=some Y→CompOf P tk o (.st n X Y)
 | app (x y:Operand) (X Y:Opd) (t e:Nat) (i:TypeInfo) (z:List V):o.op=.call { callee:=.builtin .append,args:=#[x,y],argTypes:=#[t,t] }→P.underlying t=some (.slice e)→P.info? e=some i→zeroOf P e=some z→0 < i.size→0 < i.bytes→z.length=i.size →
   opd x=some X→opd y=some Y→CompOf P tk o (.app e i.size i.bytes X Y)
 | call (f:Nat) (args:Array Operand) (ts:Array TypeId) (Xs:List Opd):o.op=.call { callee:=.value (.func f),args:=args,argTypes:=ts }→opds args=some Xs→CompOf P tk o (.call f Xs)
 | callv (x:Operand) (X:Opd) (args:Array Operand) (ts:Array TypeId) (Xs:List Opd):o.op=.call { callee:=.value x,args:=args,argTypes:=ts }→opd x=some X→opds args=some Xs→CompOf P tk o (.callv X Xs)
 | inv (x:Operand) (X:Opd) (m:String) (args:Array Operand) (ts:Array TypeId) (Xs:List Opd):o.op=.call { callee:=.invoke x m,args:=args,argTypes:=ts }→opd x=some X→opds args=some Xs→CompOf P tk o (.inv X m Xs)
 | pan (x:Operand) (X:Opd):o.op=.panic x→opd x=some X→CompOf P tk o (.pan X)
 | val (op:AOp):isVal op=true→CompOf P tk o op
theorem compOp_inv {op:AOp} (hc:compOp P tk o=some op):CompOf P tk o op:=by
 unfold compOp at hc
 split at hc
 ·rename_i x he
  obtain ⟨X,hX,rfl⟩:=Option.map_eq_some_iff.1 hc
  exact .move x X he hX
 ·rename_i x he
  obtain ⟨X,hX,rfl⟩:=Option.map_eq_some_iff.1 hc
  exact .assign x X he hX
 ·simp only [Option.bind_eq_some_iff,Option.map_eq_some_iff] at hc
  obtain ⟨C,hC,X,hX,Y,hY,rfl⟩:=hc
  exact .val _ rfl
 ·rename_i e he
  obtain ⟨z,hz,rfl⟩:=Option.map_eq_some_iff.1 hc
  exact .alloc e z he hz
 ·rename_i e x he
  simp only [Option.bind_eq_some_iff,Option.map_eq_some_iff] at hc
  obtain ⟨n,hn,X,hX,rfl⟩:=hc
  exact .box e n x X he hn hX
 ·simp only [Option.bind_eq_some_iff,Option.map_eq_some_iff] at hc
  obtain ⟨z,hz,pl,hpl,qs,hqs,rfl⟩:=hc
  exact .val _ rfl
 ·rename_i t len ps he
  split at hc
  ·rename_i e hu
   split at hc
   ·rename_i hps
    simp only [Option.bind_eq_some_iff,Option.map_eq_some_iff] at hc
    obtain ⟨n,hn,z,hz,qs,hqs,rfl⟩:=hc
    exact .row t e len n ps z qs he hu hps hn hz hqs
   ·cases hc
  ·cases hc
 ·rename_i t x he
  simp only [Option.bind_eq_some_iff,Option.map_eq_some_iff] at hc
  obtain ⟨n,hn,gg,hg,X,hX,rfl⟩:=hc
  exact .load t n gg x X he hn hg hX
 ·rename_i t x y he
  split at hc
  ·rename_i e hu
   simp only [Option.bind_eq_some_iff] at hc
   obtain ⟨i,hi,z,hz,hc⟩:=hc
   split at hc
   ·rename_i hl
    simp only [Option.bind_eq_some_iff,Option.map_eq_some_iff] at hc
    obtain ⟨X,hX,Y,hY,rfl⟩:=hc
    exact .mk t e x y X Y i z he hu hi hz hl hX hY
   ·cases hc
  ·cases hc
 ·rename_i t x y he
  simp only [Option.bind_eq_some_iff,Option.map_eq_some_iff] at hc
  obtain ⟨n,hn,X,hX,Y,hY,rfl⟩:=hc
  exact .store t n x y X Y he hn hX hY
 ·obtain ⟨X,hX,rfl⟩:=Option.map_eq_some_iff.1 hc
  exact .val _ rfl
 ·split at hc
  ·obtain ⟨X,hX,rfl⟩:=Option.map_eq_some_iff.1 hc
   exact .val _ rfl
  ·obtain ⟨X,hX,rfl⟩:=Option.map_eq_some_iff.1 hc
   exact .val _ rfl
  ·simp only [Option.bind_eq_some_iff,Option.map_eq_some_iff] at hc
   obtain ⟨k,hk,X,hX,Y,hY,rfl⟩:=hc
   exact .val _ rfl
 ·obtain ⟨X,hX,rfl⟩:=Option.map_eq_some_iff.1 hc
  exact .val _ rfl
 ·split at hc
  ·obtain ⟨X,hX,rfl⟩:=Option.map_eq_some_iff.1 hc
   exact .val _ rfl
  ·cases hc
 ·split at hc
  ·cases hc
  ·obtain ⟨X,hX,rfl⟩:=Option.map_eq_some_iff.1 hc
   exact .val _ rfl
  ·cases hc
 ·split at hc
  ·obtain ⟨X,hX,rfl⟩:=Option.map_eq_some_iff.1 hc
   exact .val _ rfl
  ·cases hc
 ·split at hc
  ·simp only [Option.bind_eq_some_iff,Option.map_eq_some_iff] at hc
   obtain ⟨n,hn,X,hX,Lo,hLo,Hi,hHi,rfl⟩:=hc
   exact .val _ rfl
  ·simp only [Option.bind_eq_some_iff,Option.map_eq_some_iff] at hc
   obtain ⟨X,hX,Lo,hLo,Hi,hHi,rfl⟩:=hc
   exact .val _ rfl
  ·cases hc
 ·split at hc
  ·simp only [Option.bind_eq_some_iff] at hc
   obtain ⟨f,hf,n,hn,hc⟩:=hc
   split at hc
   ·cases hc
   ·obtain ⟨X,hX,rfl⟩:=Option.map_eq_some_iff.1 hc
    exact .val _ rfl
  ·cases hc
 ·split at hc
  ·simp only [Option.bind_eq_some_iff,Option.map_eq_some_iff] at hc
   obtain ⟨f,hf,n,hn,gg,hg,X,hX,rfl⟩:=hc
   exact .val _ rfl
  ·cases hc
 ·split at hc
  ·simp only [Option.bind_eq_some_iff,Option.map_eq_some_iff] at hc
   obtain ⟨n,hn,X,hX,Y,hY,rfl⟩:=hc
   exact .val _ rfl
  ·cases hc
 ·split at hc
  ·simp only [Option.bind_eq_some_iff,Option.map_eq_some_iff] at hc
   obtain ⟨X,hX,Y,hY,rfl⟩:=hc
   exact .val _ rfl
  ·simp only [Option.bind_eq_some_iff,Option.map_eq_some_iff] at hc
   obtain ⟨m,hm,gg,hg,X,hX,Y,hY,rfl⟩:=hc
   exact .val _ rfl
  ·cases hc
 ·obtain ⟨X,hX,rfl⟩:=Option.map_eq_some_iff.1 hc
  exact .val _ rfl
 ·rename_i c he
  obtain ⟨callee,args,tys⟩:=c
  unfold compCall at hc
  simp only at hc
  split at hc
  ·unfold compBuiltin at hc
   split at hc
   ·split at hc
    ·obtain ⟨X,hX,rfl⟩:=Option.map_eq_some_iff.1 hc
     exact .val _ rfl
    ·obtain ⟨X,hX,rfl⟩:=Option.map_eq_some_iff.1 hc
     exact .val _ rfl
    ·cases hc
   ·rename_i x y t u h1 h2
    split at hc
    ·rename_i e hu
     simp only [Option.bind_eq_some_iff] at hc
     obtain ⟨i,hi,z,hz,hc⟩:=hc
     split at hc
     ·rename_i h3
      simp only [Option.bind_eq_some_iff,Option.map_eq_some_iff] at hc
      obtain ⟨X,hX,Y,hY,rfl⟩:=hc
      have e1:args=#[x,y]:=Array.ext' h1
      have e2:tys=#[t,u]:=Array.ext' h2
      obtain ⟨h4,h5,rfl,h6⟩:=h3
      exact .app x y X Y t e i z (by rw [he,e1,e2]) hu hi hz h4 h5 h6 hX hY
     ·cases hc
    ·cases hc
   ·simp only [Option.bind_eq_some_iff,Option.map_eq_some_iff] at hc
    obtain ⟨X,hX,Y,hY,rfl⟩:=hc
    exact .val _ rfl
   ·simp only [Option.bind_eq_some_iff,Option.map_eq_some_iff] at hc
    obtain ⟨X,hX,Y,hY,rfl⟩:=hc
    exact .val _ rfl
   ·cases hc
  ·split at hc
   ·obtain ⟨X,hX,rfl⟩:=Option.map_eq_some_iff.1 hc
    exact .call _ _ _ _ he hX
   ·simp only [Option.bind_eq_some_iff,Option.map_eq_some_iff] at hc
    obtain ⟨X,hX,Y,hY,rfl⟩:=hc
    exact .callv _ _ _ _ _ he hX hY
  ·simp only [Option.bind_eq_some_iff,Option.map_eq_some_iff] at hc
   obtain ⟨X,hX,Y,hY,rfl⟩:=hc
   exact .inv _ _ _ _ _ _ he hX hY
 ·rename_i x he
  obtain ⟨X,hX,rfl⟩:=Option.map_eq_some_iff.1 hc
  exact .pan x X he hX
 ·cases hc
theorem G_new (I:Inv P T g w) {o:Nat} {v:Value}:g.G w.heap.size o≠some v:=fun h=>absurd (G_lt I h) (Nat.lt_irrefl _)
theorem run_buildNone (w:World) (t e:Nat) (it:TypeInfo) (hu:P.underlying t=some (.slice e)) (hit:P.info? e=some it):(Instr.buildSlice t 0 #[]).run P w=.ok (.slice (some ⟨w.heap.size,0,none⟩) 0 0) (w.alloc (.cells #[] e)):=by
 have h0:Array.map (fun x=>default) (Array.range 0)=(#[]:Array Value):=by apply Array.ext'; simp
 simp [Instr.buildSlice,run_underlying hu,sizeOf,typeInfo,hit,newRow,Instr.fill,h0]
theorem step_row (I:Inv P T g w) (hF:FrRel P T g w nt F a.tmps) (hfl:Flat T) {d:Option Nat} (hd:inNt nt d=true) {e n:Nat} {ps:List Opd} {v:V}
  (hc:CompOf P tk o (.row e n ps)) (hv:valOp cE F T (.row e n ps)=some (.ret v)) :
  ∃ x w' g',(execOp a.eval o).run P w=.ok (.value x) w'∧StepTo P T g w a nt T (putO F d v) g' w' (a.put d x):=by
 cases hc with
 | val _ h=>cases h
 | row t _ len _ qs z _ he hu hps hn hz hqs =>
  simp only [valOp] at hv
  split at hv
  ·rename_i hsz
   obtain ⟨h1,h2⟩:=hsz
   simp only [Option.map_eq_some_iff] at hv
   obtain ⟨xs,hxs,hv⟩:=hv
   simp at hv; subst hv
   have hqs':(qs.toList.map (·.2)).mapM opd=some ps:=by rw [List.mapM_map]; exact hqs
   obtain ⟨k1,k2,k3,k4,k5⟩:=rows_ok hF hqs' hxs
   obtain ⟨it,zv,hit,hzv,_,_,_⟩:=rel_zeroOf (P:=P) (g:=g) (d:=0) hz
   have hsize:it.size=n:=by
    unfold szOf at hn
    rw [hit] at hn
    simpa using hn
   have hlen:len=qs.toList.length:=by
    have:=congrArg List.length hps
    simpa using this.symm
   have hpl:ps.length=qs.toList.length:=by
    have:=(mapM_get hqs).1
    exact this
   have hparts:(qs.map fun (i,x)=>(i,a.eval x)).toList=(((qs.toList.map (·.2)).map a.eval).zipIdx 0).map fun x=>(x.2,x.1):=by
    apply List.ext_getElem?
    intro j
    simp only [Array.toList_map,List.getElem?_map,List.getElem?_zipIdx,Nat.zero_add]
    cases hj:qs.toList[j]? with
    | none=>simp
    | some q =>
     have:(qs.toList.map (·.1))[j]?=some q.1:=by simp [hj]
     rw [hps] at this
     have:q.1=j:=by
      rw [List.getElem?_range (by have:=(List.getElem?_eq_some_iff.1 hj).1; omega)] at this
      simpa using this.symm
     simp [this]
   have hfill:=Great.fill_whole (s:=n) h2 ((qs.toList.map (·.2)).map a.eval) ((Array.range (len*it.size)).map (zv.cells[· % zv.cells.size]!)) k5 (by simp [hlen,hsize])
   rw [← hparts] at hfill
   have hrun:(Instr.buildSlice t len (qs.map fun (i,x)=>(i,a.eval x))).run P w=.ok (.slice (some ⟨w.heap.size,0,none⟩) len len) (w.alloc (.cells (((qs.toList.map (·.2)).map a.eval).flatMap fun v=>v.cells.toList).toArray e)):=by
    rcases Nat.eq_zero_or_pos qs.toList.length with h0 | hpos
    ·have hq0:qs.toList=[]:=List.eq_nil_of_length_eq_zero h0
     have hq1:qs=#[]:=Array.ext' hq0
     rw [hq1,show len=0 from by rw [hlen,h0]]
     have hr:=run_buildNone w t e it hu hit
     simpa using hr
    ·have hbig:¬ len*it.size > 2 ^ 24:=by rw [hsize,hlen, ← hpl]; omega
     have hnz:¬ len*it.size=0:=by
      rw [hsize,hlen]
      have:=Nat.mul_pos hpos h2
      omega
     have hr:=run_buildSlice (P:=P) w t e len (qs.map fun (i,x)=>(i,a.eval x)) _ it zv hu hit hzv hbig hnz (by rw [hsize]; rw [hsize] at hfill; exact hfill)
     exact hr
   have hxl:xs.length=len:=by rw [k4,hlen]; simp
   have hcl:=relL_length k1
   rw [length_flat k3] at hcl
   have hexec:(execOp a.eval o).run P w=.ok (.value (.slice (some ⟨w.heap.size,0,none⟩) len len)) (w.alloc (.cells (((qs.toList.map (·.2)).map a.eval).flatMap fun v=>v.cells.toList).toArray e)):=by
    simp only [execOp,he,Sem.run_bind,hrun,Result.andThen_ok]
    rfl
   have hown:=World.ownsRow_lit (base:=0) (e:=e) (size:=n) w (((qs.toList.map (·.2)).map a.eval).flatMap fun v=>v.cells.toList).toArray len (Nat.zero_le _) (by
    have h4:len*1≤len*n:=Nat.mul_le_mul_left _ h2
    have h5:len*n≤16777216:=by rw [hlen, ← hpl]; exact h1
    simp only [maxLen]
    omega) (by rw [List.size_toArray, ← hcl,hxl])
   obtain ⟨g',hg'⟩:=step_own (so:=none) I hF hfl hd (b:=w.heap.size) (e:=e) (n:=n) (cap:=len) (xs:=xs) (w':=w.alloc (.cells (((qs.toList.map (·.2)).map a.eval).flatMap fun v=>v.cells.toList).toArray e)) hn h2 k3 (by rw [hxl]; simpa using hown) k1 k2 rfl rfl rfl (by simp)
    (fun k hk _=>heap_alloc_old w _ k hk) (fun h=>absurd h (Nat.lt_irrefl _)) (by simp) (fun o v h=>absurd h (G_new I)) (by simp)
   rw [hxl] at hg'
   exact ⟨_,_,g',hexec,hg'⟩
  ·cases hv
theorem run_append_all (t ty e:TypeId) (i:TypeInfo) (z:Value) (ht:P.underlying t=some (.slice e)) (hi:P.info? e=some i) (hz:i.zero=some z) (hzs:z.cells.size=i.size) (hsz:0 < i.size)
  (v:Value) (n:Nat) (xs:List Value) (hown:w.ownsRow 0 e i.size v n xs) (ad:Addr) (m c:Nat) (news:List Value) (hl:news.length=m*i.size) (hnews:∀ j u,news[j]?=some u→w.cell? (ad.add j)=some u) (h1:∀ u∈news,u.oneCell'=true)
  (h63:n+m≤maxLen) (hbytes:(n+m)*i.bytes≤140737488355328) :
  ∃ v' w',(Builtin.append_ #[t,t] ty #[v, .slice (some ad) m c]).run P w=.ok v' w'∧w'.ownsRow 0 e i.size v' (n+m) (xs++news)∧w.grownBy w' v.ownBlock ∧
   ((v'=.slice none 0 0∧(v=.slice none 0 0∧m=0)∧w'=w)∨∃ b cap,v'=.slice (some ⟨b,0,none⟩) (n+m) cap∧¬ (v=.slice none 0 0∧m=0)∧(v.ownBlock=some b∨w.heap.size=b)∧∀ k,k < w.heap.size→k≠b→w'.heap[k]?=w.heap[k]?):=by
 obtain ⟨v',w',hr,h2,h3,h4⟩:=run_append_own (P:=P) w 0 t ty e i z i.size i.bytes ht hi hz rfl rfl hzs hsz v n xs hown ad m c news hl hnews h1 h63 hbytes (Nat.zero_le _)
 refine ⟨v',w',hr,h2,h3,?_⟩
 rcases h2.2 with ⟨rfl,h⟩ | ⟨b,cap,cur,rfl,_⟩
 ·obtain ⟨rfl,rfl⟩:=h4.1 rfl
  have h0:n=0:=by omega
  subst h0
  refine .inl ⟨rfl,⟨rfl,rfl⟩,?_⟩
  have hg:(Builtin.append_ #[t,t] ty #[.slice none 0 0, .slice (some ad) 0 c]).run P w=.ok (.slice none 0 0) w:=by
   simp [Builtin.append_,run_underlying ht,sizeOf,typeInfo,hi,Builtin.lenOf,Builtin.firstCells,loadCells,loadCellsFrom]
  rw [hr] at hg
  injection hg
 refine .inr ⟨b,cap,rfl,fun h=>by have:=h4.2 h; simp at this,?_⟩
 have hs63:(((n+m:Nat):Nat):Int)≤9223372036854775807:=by simp only [maxLen] at h63; omega
 rcases hown.2 with ⟨rfl,rfl⟩ | ⟨g,cap0,cur0,rfl,_,_,hnc,_⟩
 ·by_cases hm:m=0
  ·have:=h4.2 ⟨rfl,hm⟩
   simp at this
  ·have hx:xs=[]:=List.eq_nil_of_length_eq_zero (by simpa using hown.1)
   subst hx
   have hg:=run_append_grow_src (P:=P) w t t ty e i z ht hi hz none 0 0 [] (by simpa using run_firstCells_none (P:=P) w.drew i.size 0 0 0) (.slice (some ad) m c) m news (Src.ofSlice w ht ad m c news hl hnews h1) (by omega) hs63 (growslice_fits (by omega) hbytes)
   rw [hr] at hg
   simp only [Result.ok.injEq,Value.slice.injEq,Option.some.injEq,Addr.mk.injEq] at hg
   exact ⟨.inr hg.1.1.1.symm,fun k hk _=>by rw [hg.2]; exact heap_alloc_old w.drew _ k hk⟩
 ·by_cases hroom:n+m≤cap0
  ·obtain ⟨w'',hf,_,hgr⟩:=run_append_fits (P:=P) w 0 t ty e i i.size ht hi rfl g n cap0 xs hown ad m c news hl hnews h1 hroom
   rw [hr] at hf
   simp only [Result.ok.injEq,Value.slice.injEq,Option.some.injEq,Addr.mk.injEq] at hf
   have hbg:b=g:=hf.1.1.1
   subst hbg
   exact ⟨.inl rfl,fun k hk hkb=>by rw [hf.2]; exact hgr.block k hk (by simp [hkb])⟩
  ·have hcells:∀ j u,xs[j]?=some u→w.drew.cell? ((⟨g,0,none⟩:Addr).add j)=some u:=fun j u hu=>hown.cells (g:=g) rfl j u hu
   have hg:=run_append_grow_src (P:=P) w t t ty e i z ht hi hz (some ⟨g,0,none⟩) n cap0 xs (run_firstCells_some (P:=P) w.drew i.size n ⟨g,0,none⟩ n cap0 xs hown.1 hcells) (.slice (some ad) m c) m news (Src.ofSlice w ht ad m c news hl hnews h1) (by omega) hs63 (growslice_fits (by omega) hbytes)
   rw [hr] at hg
   simp only [Result.ok.injEq,Value.slice.injEq,Option.some.injEq,Addr.mk.injEq] at hg
   exact ⟨.inr hg.1.1.1.symm,fun k hk _=>by rw [hg.2]; exact heap_alloc_old w.drew _ k hk⟩
theorem run_append_nothing (t ty e:TypeId) (i:TypeInfo) (ht:P.underlying t=some (.slice e)) (hi:P.info? e=some i) (v:Value) (n:Nat) (xs:List Value) (hown:w.ownsRow 0 e i.size v n xs) (c:Nat) :
  (Builtin.append_ #[t,t] ty #[v, .slice none 0 c]).run P w=.ok v w:=by
 rcases hown.2 with ⟨rfl,rfl⟩ | ⟨g,cap,cur,rfl,_,_,hnc,_⟩
 ·simp [Builtin.append_,run_underlying ht,sizeOf,typeInfo,hi,Builtin.lenOf,Builtin.firstCells]
 ·simp [Builtin.append_,run_underlying ht,sizeOf,typeInfo,hi,Builtin.lenOf,Builtin.firstCells,hnc,storeCells]
theorem own_vals (I:Inv P T g w) {b e n cap:Nat} {xs:List (List V)} {cs:List Value} (hlen:∀ r∈xs,r.length=n) (hown:w.ownsRow 0 e n (.slice (some ⟨b,0,none⟩) xs.length cap) xs.length cs) (hr:RowsG g (some ⟨b,0,none⟩) xs) :
  RelL g 0 xs.flatten cs∧isCells xs.flatten=true∧∀ (j:Nat) (v:Value),cs[j]?=some v→g.G b j=some v:=by
 obtain ⟨vs,h1,h2,h3⟩:=rowsG_vals hr
 have hG:=h3 b 0 rfl
 have hl:vs.length=xs.length*n:=by rw [← relL_length h1,length_flat hlen]
 have:vs=cs:=by
  apply List.ext_getElem?
  intro j
  rcases Nat.lt_or_ge j vs.length with hj | hj
  ·have hv:=List.getElem?_eq_getElem hj
   have h4:=hG j _ hv
   simp only [Nat.zero_add] at h4
   have h5:=(I.G _ _ _ h4).1
   rw [hown.cellAt j (by omega)] at h5
   rw [hv,h5]
  ·rw [List.getElem?_eq_none hj,List.getElem?_eq_none (by rw [hown.1]; omega)]
 subst this
 exact ⟨h1,h2,fun j v hv=>by simpa using hG j v hv⟩
theorem evO_own (hF:FrRel P T g w nt F a.tmps) {x:Operand} {X:Opd} (hX:opd x=some X) {e:Nat} {xs:List (List V)} (h:evO F X=.slice (.own e) xs):∃ s,X=.t s∧x=.tmp s∧F s=.slice (.own e) xs∧OwnAt P g w (.tmp s) e (a.eval x) xs:=by
 unfold opd at hX
 split at hX
 ·rename_i s
  injection hX with hX; subst hX
  simp only [evO] at h
  refine ⟨s,rfl,rfl,h,?_⟩
  rcases Nat.lt_or_ge s a.tmps.size with hs | hs
  ·have:=(hF.tmp s a.tmps[s] (Array.getElem?_eq_getElem hs)).own e xs h
   simpa [Act.eval,hs] using this
  ·rw [hF.past s (by rw [← hF.size]; exact hs)] at h
   cases h
 ·obtain ⟨v,hv,rfl⟩:=Option.map_eq_some_iff.1 hX
  have:=(rel_ofValue (g:=g) (d:=0) hv).2
  simp only [evO] at h
  subst h
  cases this
 ·injection hX with hX; subst hX
  simp [evO] at h
 ·cases hX
theorem step_app_core (I:Inv P T g w) (hF:FrRel P T g w nt F a.tmps) (hfl:Flat T) {d:Option Nat} (hd:inNt nt d=true) {e n b:Nat} {X Y:Opd} {k:SK} {xs ys:List (List V)}
  (hc:CompOf P tk o (.app e n b X Y)) (hXe:evO F X=.slice k xs) (hgrow:mayGrow k e xs.length=true) (hly:∀ r∈ys,r.length=n) (hbytes:(xs.length+ys.length)*b≤140737488355328) (hlen:xs.length+ys.length≤140737488355328)
  (hsrc:∀ y,opd y=some Y→∃ ay cy news,a.eval y=.slice ay ys.length cy∧RelL g 0 ys.flatten news∧isCells ys.flatten=true∧(ay=none→ys=[])∧∀ ad,ay=some ad→∀ (j:Nat) (u:Value),news[j]?=some u→w.cell? (ad.add j)=some u) :
  ∃ x w' g',(execOp a.eval o).run P w=.ok (.value x) w'∧StepTo P T g w a nt T (putO (unown F X) d (appV k e xs ys)) g' w' (a.put d x):=by
 cases hc with
 | val _ h=>cases h
 | app x y _ _ t _ i z he hu hi hz h0 hb0 hzl hX hY =>
  obtain ⟨it,zv,hit,hzv,hzr,_,_⟩:=rel_zeroOf (P:=P) (g:=g) (d:=0) hz
  rw [hi] at hit; injection hit with hit; subst hit
  have hzs:zv.cells.size=i.size:=by rw [← hzl,relL_length hzr]; simp
  have hsz:szOf P e=some i.size:=by simp [szOf,hi]
  have hrx:=rel_opd hF hX
  rw [hXe] at hrx
  simp only [Rel] at hrx
  obtain ⟨ax,nx,cx,hxe,hnx,hcx,_,hrowx,hspx,hkx⟩:=hrx
  obtain ⟨ay,cy,news,hye,hn1,hn2,hay,hn3⟩:=hsrc y hY
  -- who grows
  obtain ⟨so,cs,hown,hlx,hblk,hso⟩:∃ so cs,w.ownsRow 0 e i.size (a.eval x) xs.length cs∧(∀ r∈xs,r.length=i.size) ∧
    (∀ b,(a.eval x).ownBlock=some b→OfTmp so (g.use b)∧∀ o v,g.G b o=some v→o < xs.length*i.size)∧(so=none∨∃ s,so=some s∧X=.t s):=by
   cases k with
   | nil =>
    simp only [mayGrow,beq_iff_eq] at hgrow
    have hxs:xs=[]:=List.eq_nil_of_length_eq_zero hgrow
    subst hxs
    obtain ⟨rfl,rfl⟩:=hkx
    subst hnx
    refine ⟨none,[],?_,by simp,fun b hb=>?_, .inl rfl⟩
    ·rw [hxe]; exact World.ownsRow_nil w 0 e i.size
    ·rw [hxe] at hb; simp [Value.ownBlock] at hb
   | shut=>simp [mayGrow] at hgrow
   | own e' =>
    simp only [mayGrow,beq_iff_eq] at hgrow
    subst hgrow
    obtain ⟨s,rfl,rfl,hFs,hO⟩:=evO_own hF hX hXe
    obtain ⟨n',cs,h1,h2,h3,h4,h5⟩:=hO
    rw [hsz] at h1; injection h1 with h1; subst h1
    exact ⟨some s,cs,h4,h3,fun b hb=>⟨⟨s,rfl,(h5 b hb).1⟩,(h5 b hb).2⟩, .inr ⟨s,rfl,rfl⟩⟩
  -- the frame with the right dropped
  let F1:Fr:=unown F X
  have hF1:FrRel P T g w nt F1 a.tmps:=by
   cases X with
   | t s=>exact hF.strip s
   | c _=>exact hF
  have hcalm:∀ s,so=some s→isCalm (F1 s)=true:=by
   intro s hs
   rcases hso with rfl | ⟨s',hs',rfl⟩
   ·cases hs
   ·rw [hs'] at hs; injection hs with hs; subst hs
    simp only [F1,unown,put_same]
    simp only [evO] at hXe
    exact isCalm_strip (by rw [hXe]; rfl)
  have hnl:news.length=ys.length*i.size:=by rw [← relL_length hn1,length_flat hly]
  have hone:=oneCells_of_rel hn2 hn1
  have hexec:∀ v' w',(Builtin.append_ #[t,t] o.type #[a.eval x,a.eval y]).run P w=.ok v' w'→(execOp a.eval o).run P w=.ok (.value v') w':=by
   intro v' w' hr
   simp only [execOp,he,resolve,invoke,builtin,Sem.run_bind,Sem.run_pure,Result.andThen_ok,List.map_toArray,List.map_cons,List.map_nil,hr]
  have hlxy:∀ r∈xs++ys,r.length=i.size:=fun r hr=>(List.mem_append.1 hr).elim (hlx r) (hly r)
  -- the old cells
  have holds:RelL g 0 xs.flatten cs∧isCells xs.flatten=true∧∀ b,(a.eval x).ownBlock=some b→∀ (j:Nat) (v:Value),cs[j]?=some v→g.G b j=some v:=by
   rcases hown.2 with ⟨hv,h0'⟩ | ⟨b,cap,cur,hv,_⟩
   ·have hxs:xs=[]:=List.eq_nil_of_length_eq_zero h0'
    subst hxs
    have:cs=[]:=List.eq_nil_of_length_eq_zero (by simpa using hown.1)
    subst this
    exact ⟨by simp [RelL],rfl,fun b hb j v h=>by simp at h⟩
   ·rw [hv] at hown
    have hax:ax=some ⟨b,0,none⟩:=by rw [hxe] at hv; simp only [Value.slice.injEq] at hv; exact hv.1
    subst hax
    obtain ⟨h1,h2,h3⟩:=own_vals I hlx hown hrowx
    refine ⟨h1,h2,fun b' hb'=>?_⟩
    rw [hv] at hb'
    simp only [Value.ownBlock,Option.some.injEq] at hb'
    subst hb'
    exact h3
  have hrel:RelL g 0 (xs++ys).flatten (cs++news):=by rw [List.flatten_append]; exact relL_append holds.1 hn1
  have hic:isCells (xs++ys).flatten=true:=by
   rw [List.flatten_append]
   exact isCells_iff.2 fun c hc=>(List.mem_append.1 hc).elim (isCells_iff.1 holds.2.1 c) (isCells_iff.1 hn2 c)
  have hll:(xs++ys).length=xs.length+ys.length:=List.length_append
  -- one result for all arms
  obtain ⟨v',w',hr,ho',hg',hwhere⟩:∃ v' w',(Builtin.append_ #[t,t] o.type #[a.eval x,a.eval y]).run P w=.ok v' w'∧w'.ownsRow 0 e i.size v' (xs.length+ys.length) (cs++news)∧w.grownBy w' (a.eval x).ownBlock ∧
    ((v'=.slice none 0 0∧(a.eval x=.slice none 0 0∧ys.length=0)∧w'=w)∨∃ b cap,v'=.slice (some ⟨b,0,none⟩) (xs.length+ys.length) cap∧¬ (a.eval x=.slice none 0 0∧ys.length=0)∧((a.eval x).ownBlock=some b∨w.heap.size=b)∧∀ k,k < w.heap.size→k≠b→w'.heap[k]?=w.heap[k]?):=by
   cases ay with
   | none =>
    have hys:ys=[]:=hay rfl
    subst hys
    have hnews:news=[]:=List.eq_nil_of_length_eq_zero (by simpa using hnl)
    subst hnews
    refine ⟨a.eval x,w,?_,by simpa using hown,⟨rfl,rfl,rfl,Nat.le_refl _,fun _ _ _=>rfl⟩,?_⟩
    ·rw [hye]; exact run_append_nothing t o.type e i hu hi _ _ cs hown cy
    ·rcases hown.2 with ⟨hv,h0'⟩ | ⟨b,cap,cur,hv,_⟩
     ·exact .inl ⟨hv,⟨hv,rfl⟩,rfl⟩
     ·exact .inr ⟨b,cap,by simpa using hv,(by rw [hv]; simp), .inl (by rw [hv]; rfl),fun _ _ _=>rfl⟩
   | some ad =>
    rw [hye]
    exact run_append_all t o.type e i zv hu hi hzv hzs h0 (a.eval x) xs.length cs hown ad ys.length cy news hnl (hn3 ad rfl) hone (by simp only [maxLen]; omega) hbytes
  refine ⟨v',w',?_⟩
  rcases hwhere with ⟨rfl,⟨hxn,hy0⟩,hw⟩ | ⟨b,cap,rfl,hnn,hb,hkept⟩
  ·-- nothing at all
   have hys:ys=[]:=List.eq_nil_of_length_eq_zero hy0
   subst hys
   have hkn:k=.nil:=by
    cases k with
    | nil=>rfl
    | shut=>rw [hxe] at hxn; simp only [Value.slice.injEq] at hxn; exact absurd hxn.1 hkx
    | own _=>rw [hxe] at hxn; simp only [Value.slice.injEq] at hxn; exact absurd hxn.1 hkx
   subst hkn
   subst hw
   have hrn:Rel g T.length (.slice .nil []) (.slice none 0 0):=by
    simp only [Rel]
    exact ⟨none,0,0,rfl,rfl,Nat.le_refl _,⟨0,by simp⟩,by simp [RowsG],by simp,rfl,rfl⟩
   exact ⟨g,hexec _ _ hr,step_quiet I hF1 hfl hd fun t' _=>TmpAt.calm rfl hrn⟩
  ·have hV:appV k e xs ys=V.slice (.own e) (xs++ys):=by
    cases k with
    | nil =>
     cases ys with
     | nil =>
      obtain ⟨rfl,rfl⟩:=hkx
      simp only [mayGrow,beq_iff_eq] at hgrow
      rw [hgrow] at hnx
      exact absurd ⟨by rw [hxe,hnx],rfl⟩ hnn
     | cons _ _=>rfl
    | shut=>rfl
    | own _=>rfl
   rw [hV]
   rw [← hll] at ho' hr ⊢
   obtain ⟨g',hg''⟩:=step_own (so:=so) I hF1 hfl hd (b:=b) (e:=e) (n:=i.size) (cap:=cap) (xs:=xs++ys) (w':=w') hsz h0 hlxy ho' hrel hic hg'.os hg'.tape hg'.output hg'.size
    hkept
    (fun hlt=>by
     rcases hb with hb | hb
     ·exact (hblk b hb).1
     ·omega)
    (by
     rcases ho'.2 with ⟨h,_⟩ | ⟨b',cap',cur,h,_,hh,_⟩
     ·cases h
     ·simp only [Value.slice.injEq,Option.some.injEq,Addr.mk.injEq,and_true,true_and] at h
      obtain ⟨rfl,rfl⟩:=h
      exact (Array.getElem?_eq_some_iff.1 hh).1)
    (fun oo u hu'=>by
     rcases hb with hb | hb
     ·have h1:=(hblk b hb).2 oo u hu'
      have h2:cs[oo]?=some u:=by
       have hc':oo < cs.length:=by rw [hown.1]; exact h1
       have h3:=holds.2.2 b hb oo _ (List.getElem?_eq_getElem hc')
       rw [hu'] at h3
       injection h3 with h3
       rw [h3]; exact List.getElem?_eq_getElem hc'
      refine ⟨?_,?_⟩
      ·rw [hll,Nat.add_mul]; omega
      ·rw [List.getElem?_append_left (by rw [hown.1]; exact h1)]; exact h2
     ·subst hb
      exact absurd hu' (G_new I))
    hcalm
   exact ⟨g',hexec _ _ hr,hg''⟩
theorem step_app (I:Inv P T g w) (hF:FrRel P T g w nt F a.tmps) (hfl:Flat T) {d:Option Nat} (hd:inNt nt d=true) {e n b:Nat} {X Y:Opd} {v:V}
  (hc:CompOf P tk o (.app e n b X Y)) (hv:appOf F e n b X Y=some v) :
  ∃ x w' g',(execOp a.eval o).run P w=.ok (.value x) w'∧StepTo P T g w a nt T (putO (unown F X) d v) g' w' (a.put d x):=by
 unfold appOf at hv
 split at hv<;>try (cases hv; done)
 rename_i k xs k' ys hXe hYe
 split at hv<;>try (cases hv; done)
 rename_i hcond
 obtain ⟨hgrow,hall,hbytes,hlen⟩:=hcond
 injection hv with hv; subst hv
 have hly:∀ r∈ys,r.length=n:=fun r hr=>by simpa using List.all_eq_true.1 hall r hr
 refine step_app_core I hF hfl hd hc hXe hgrow hly hbytes hlen fun y hY=>?_
 have hry:=rel_opd hF hY
 rw [hYe] at hry
 simp only [Rel] at hry
 obtain ⟨ay,ny,cy,hye,hny,hcy,_,hrowy,hspy,_⟩:=hry
 obtain ⟨news,hn1,hn2,hn3⟩:=rowsG_vals hrowy
 refine ⟨ay,cy,news,by rw [hye,hny],hn1,hn2,fun h=>?_,fun ad had j u hj=>?_⟩
 ·subst h
  cases ys with
  | nil=>rfl
  | cons _ _=>simp [RowsG] at hrowy
 ·subst had
  by_cases hy0:ys=[]
  ·subst hy0
   have:news=[]:=List.eq_nil_of_length_eq_zero (by have:=relL_length hn1; simpa using this.symm)
   subst this
   simp at hj
  ·obtain ⟨b,off,sp⟩:=ad
   have hsp:=hspy hy0 _ rfl
   simp only at hsp
   subst hsp
   rw [add_lit]
   exact (I.G _ _ _ (hn3 b off rfl j u hj)).1
end
end AM
end Go.Proofs.Ytimfbnojmdnlnaa
end
section
namespace Go.Proofs.Ytimfbnojmdnlnaa
namespace AM
section
variable {P:Program} {T:St} {g:Gh} {w:World} {nt:Nat} {F:Fr} {a:Act} {tk:Option Nat→Bool} {o:Oper} {cE:CE}
theorem isCalm_of {v:V} (ht:tame v=true) (ho:∀ e xs,v≠.slice (.own e) xs):isCalm v=true:=by
 cases v<;>try rfl
 ·rename_i k xs
  cases k<;>first | rfl | exact absurd rfl (ho _ _)
 ·cases ht
 ·cases ht
theorem not_mir {v:V} (h:tame v=true):∀ l i o e xs,v≠.mir l i o e xs:=by
 intro l i o e xs hv; subst hv; cases h
theorem tame_putO {F:Fr} {d:Option Nat} {v:V} (h:∀ t,tame (F t)=true) (hv:tame v=true):∀ t,tame (putO F d v t)=true:=by
 intro t
 cases d with
 | none=>exact h t
 | some d =>
  simp only [putO,put]
  split
  ·exact hv
  ·exact h t
theorem tame_strip {v:V} (h:tame v=true):tame (strip v)=true:=by
 unfold strip; split
 ·rfl
 ·exact h
theorem tame_unown {F:Fr} {X:Opd} (h:∀ t,tame (F t)=true):∀ t,tame (unown F X t)=true:=by
 intro t
 cases X with
 | c _=>exact h t
 | t s =>
  simp only [unown,put]
  split
  ·exact tame_strip (h s)
  ·exact h t
theorem tame_of_calm {v:V} (h:isCalm v=true):tame v=true:=by
 cases v<;>first | rfl | cases h
def Gh.boxed (g:Gh) (b l i e n:Nat):Gh:=⟨g.G,fun l' i'=>if l'=l∧i'=i then b else g.bx l' i',g.lp,fun b'=>if b'=b then .box l i else g.use b',fun l' i'=>if l'=l∧i'=i then some (e,n) else g.al l' i'⟩
theorem addBox_top (bs:List (List V)) (lp:Option Lp) (R:St) (z:List V):addBox (⟨bs,lp⟩::R) R.length z=⟨bs++[z],lp⟩::R:=by simp [addBox]
theorem inv_add (I:Inv P T g w) (hfl:Flat T) {l:Nat} (hl:l < T.length) {b e:Nat} {z:List V} {vs ex:List Value} {w':World} {so:Option Nat}
  (hh:w'.heap[b]?=some (.cells ⟨vs++ex⟩ e (0,0))) (hG:∀ o v,g.G b o≠some v) (hu:g.use b=.free∧w.heap.size≤b∨OfTmp so (g.use b))
  (hi:isCells z=true) (hr:RelL g (l+1) z vs) (hz:∀ (j:Nat) e xs,z[j]?≠some (.slice (.own e) xs))
  (hos:w'.os=w.os) (htp:w'.tape=w.tape) (hout:w'.output=w.output) (hsz:w.heap.size≤w'.heap.size) (hold:∀ k,k < w.heap.size→k≠b→w'.heap[k]?=w.heap[k]?) :
  Le T.length g (g.boxed b l (lenAt T l) e (vs++ex).length)∧Same (OfTmp so) g w (g.boxed b l (lenAt T l) e (vs++ex).length) w'∧Inv P (addBox T l z) (g.boxed b l (lenAt T l) e (vs++ex).length) w':=by
 have hnb:(∀ l i,g.use b≠.box l i)∧∀ l,g.use b≠.loop l:=by
  rcases hu with ⟨h,_⟩ | ⟨s,_,h⟩<;>rw [h]<;>exact ⟨fun _ _=>by simp,fun _=>by simp⟩
 have hNew:g.al l (lenAt T l)=none:=I.N _ _ hl (Nat.le_refl _)
 have hle:Le T.length g (g.boxed b l (lenAt T l) e (vs++ex).length):=by
  refine ⟨fun _ _ _ h=>h,fun l' i' p hl' h=>?_,fun l' hl' h=>?_⟩
  ·have h1:¬ (l'=l∧i'=lenAt T l):=by rintro ⟨rfl,rfl⟩; rw [hNew] at h; cases h
   simp only [Gh.boxed,h1,if_false]
   exact ⟨trivial,h⟩
  ·have h2:g.lp l'≠b:=fun e=>hnb.2 l' (e ▸ h)
   simp only [Gh.boxed,h2,if_false]
   exact ⟨trivial,h⟩
 have hsame:Same (OfTmp so) g w (g.boxed b l (lenAt T l) e (vs++ex).length) w':=⟨hos,htp,hout,hsz,fun k hk hku=>by
  have hkb:k≠b:=fun e=>by
   subst e
   rcases hu with ⟨_,h⟩ | h
   ·omega
   ·exact hku h
  exact ⟨hold k hk hkb,by simp [Gh.boxed,hkb],fun o=>rfl⟩⟩
 refine ⟨hle,hsame,I.step hsame hle (fun b' o v hv hc=>?_) (fun b' hb'=>?_) (fun l' i' cs hc=>?_) (fun l' p hp=>?_) (fun l' i' hl' hn=>?_)⟩
 ·have hv':g.G b' o=some v:=hv
  have hb':b'≠b:=fun e=>hG o v (e ▸ hv')
  obtain ⟨h1,h2⟩:=I.G b' o v hv'
  exact ⟨by rw [cell?_eq (hold b' (G_lt I hv') hb')]; exact h1,by simpa [Gh.boxed,hb'] using h2⟩
 ·have h1:b < w'.heap.size:=(Array.getElem?_eq_some_iff.1 hh).1
  have h2:b'≠b:=by omega
  simp only [Gh.boxed,h2,if_false]
  exact I.U b' (by omega)
 ·rw [getBox_addBox hl hi] at hc
  split at hc
  ·rename_i hli
   obtain ⟨rfl,rfl⟩:=hli
   injection hc with hc; subst hc
   right
   refine ⟨by simp [Gh.boxed],vs,e,ex,by simpa [Gh.boxed] using hh,hi,relL_mono (hle.less hl) (Nat.le_refl _) _ _ hr,fun j e' xs x hj _=>absurd hj (hz j e' xs),by simp [Gh.boxed]⟩
  ·exact .inl ⟨hc,ofTmp_box,fun _=>ofTmp_cell⟩
 ·rw [getLp_addBox] at hp
  exact .inl ⟨hp,ofTmp_loop,hfl.lp hp⟩
 ·rw [length_addBox] at hl'
  rw [lenAt_addBox _ _ _ _ hl] at hn
  have hne:¬ (l'=l∧i'=lenAt T l):=by
   rintro ⟨rfl,rfl⟩
   simp at hn
   omega
  simp only [Gh.boxed,hne,if_false]
  refine I.N l' i' hl' ?_
  split at hn
  ·rename_i h; subst h; omega
  ·exact hn
theorem inv_box (I:Inv P T g w) {bs:List (List V)} {R:St} (hT:T=⟨bs,none⟩::R) {b e:Nat} {z:List V} {vs:List Value} {w':World} {so:Option Nat}
  (hh:w'.heap[b]?=some (.cells ⟨vs⟩ e (0,0))) (hG:∀ o v,g.G b o≠some v) (hu:g.use b=.free∧w.heap.size≤b∨OfTmp so (g.use b))
  (hi:isCells z=true) (hr:RelL g (R.length+1) z vs) (hz:∀ (j:Nat) e xs,z[j]?≠some (.slice (.own e) xs))
  (hos:w'.os=w.os) (htp:w'.tape=w.tape) (hout:w'.output=w.output) (hsz:w.heap.size≤w'.heap.size) (hold:∀ k,k < w.heap.size→w'.heap[k]?=w.heap[k]?) :
  Le T.length g (g.boxed b R.length bs.length e vs.length)∧Same (OfTmp so) g w (g.boxed b R.length bs.length e vs.length) w'∧Inv P (⟨bs++[z],none⟩::R) (g.boxed b R.length bs.length e vs.length) w':=by
 subst hT
 have h:=inv_add (l:=R.length) (so:=so) (ex:=[]) (e:=e) (z:=z) I trivial (by simp) (by simpa using hh) hG hu hi hr hz hos htp hout hsz (fun k hk _=>hold k hk)
 rw [lenAt_top,addBox_top,List.append_nil] at h
 exact h
def Gh.kill (g:Gh) (b s:Nat):Gh:=⟨g.G,g.bx,g.lp,fun b'=>if b'=b then .row (.tmp s) else g.use b',g.al⟩
theorem inv_kill (I:Inv P T g w) (hfl:Flat T) {l i:Nat} {cs:List V} (hb:getBox T l i=some cs) (s:Nat) :
  (∀ n,Le n g (g.kill (g.bx l i) s))∧Same (·=.box l i) g w (g.kill (g.bx l i) s) w∧Inv P (setBox T l i dead) (g.kill (g.bx l i) s) w:=by
 obtain ⟨hu,vs,ty,ex,hh,hi,hr,hown,hal⟩:=I.B l i cs hb
 have hle:∀ n,Le n g (g.kill (g.bx l i) s):=fun n=>⟨fun _ _ _ h=>h,fun _ _ _ _ h=>⟨rfl,h⟩,fun l' _ h=>⟨rfl,by
  simp only [Gh.kill]
  split
  ·rename_i e; rw [e,hu] at h; cases h
  ·exact h⟩⟩
 have hsame:Same (·=.box l i) g w (g.kill (g.bx l i) s) w:=⟨rfl,rfl,rfl,Nat.le_refl _,fun k hk hku=>⟨rfl,by
  simp only [Gh.kill]
  split
  ·rename_i e; rw [e] at hku; exact absurd hu hku
  ·rfl,fun _=>rfl⟩⟩
 refine ⟨hle,hsame,I.step hsame (hle _) (fun b' o v hv hc=>?_) (fun b' hb'=>?_) (fun l' i' cs' hc=>?_) (fun l' p hp=>?_) (fun l' i' hl' hn=>?_)⟩
 ·obtain ⟨h1,h2⟩:=I.G b' o v hv
  refine ⟨h1,?_⟩
  simp only [Gh.kill]
  split
  ·exact .inr ⟨_,rfl⟩
  ·exact h2
 ·have h1:g.bx l i < w.heap.size:=(Array.getElem?_eq_some_iff.1 hh).1
  have h2:b'≠g.bx l i:=by omega
  simp only [Gh.kill,h2,if_false]
  exact I.U b' hb'
 ·rw [getBox_kill hb] at hc
  split at hc
  ·cases hc
  ·rename_i hli
   exact .inl ⟨hc,by simpa using hli,by simp⟩
 ·rw [getLp_setBox] at hp
  exact .inl ⟨hp,by simp,hfl.lp hp⟩
 ·rw [length_setBox] at hl'
  rw [lenAt_setBox] at hn
  exact I.N l' i' hl' hn
theorem zero_at {z:List V} (h:∀ u∈z, ∀ (e:Nat) (ys:List (List V)),u≠.slice (.own e) ys):∀ (j:Nat) e xs,z[j]?≠some (.slice (.own e) xs):=fun j e xs hj=>h _ (List.mem_of_getElem? hj) e xs rfl
theorem step_new (I:Inv P T g w) (hF:FrRel P T g w nt F a.tmps) (ht:∀ t,tame (F t)=true) {d:Option Nat} (hd:inNt nt d=true) {bs:List (List V)} {R:St} (hT:T=⟨bs,none⟩::R) {e:Nat} {z:List V} {cells:Array Value}
  (hi:isCells z=true) (hr:RelL g T.length z cells.toList) (hz:∀ (j:Nat) e xs,z[j]?≠some (.slice (.own e) xs)) :
  ∃ g',StepTo P T g w a nt (⟨bs++[z],none⟩::R) (putO F d (.ptr R.length bs.length 0)) g' (w.alloc (.cells cells e)) (a.put d (.pointer (some ⟨w.heap.size,0,none⟩))):=by
 have hlen:T.length=R.length+1:=by rw [hT]; rfl
 obtain ⟨hle,hsame,hinv⟩:=inv_box (so:=none) I hT (b:=w.heap.size) (e:=e) (z:=z) (vs:=cells.toList) (w':=w.alloc (.cells cells e)) (by rw [heap_alloc_new]) (fun o v h=>absurd h (G_new I)) (.inl ⟨I.U _ (Nat.le_refl _),Nat.le_refl _⟩)
  hi (by rw [hlen] at hr; exact hr) hz rfl rfl rfl (by simp) (fun k hk=>heap_alloc_old w _ k hk)
 refine ⟨_,hle,hsame.frm ofTmp_free,hinv,?_,by rw [hT]; rfl,trivial,put_defs _ _ _,fun b hb hu=>?_⟩
 ·refine FrRel.put hF.size hF.past hd (fun t y _ hy=>(hF.tmp t y hy).same I hsame hle (by rw [hT]; rfl) (by rintro ⟨s,h,_⟩; cases h) (.inl (not_mir (ht t)))) (fun t _=>TmpAt.calm rfl ?_)
  simp only [Rel]
  exact ⟨by simp,⟨_,by simp [Gh.boxed]; rfl⟩,by simp [Gh.boxed]⟩
 ·obtain ⟨h1,h2,_⟩:=hsame.old b hb (by rw [hu]; exact ofTmp_mark)
  exact ⟨h2.trans hu,h1⟩
theorem step_al (I:Inv P T g w) (hF:FrRel P T g w nt F a.tmps) (ht:∀ t,tame (F t)=true) {d:Option Nat} (hd:inNt nt d=true) {bs:List (List V)} {R:St} (hT:T=⟨bs,none⟩::R) {z:List V} (hc:CompOf P tk o (.al z)) :
  ∃ x w' g',(execOp a.eval o).run P w=.ok (.value x) w'∧StepTo P T g w a nt (⟨bs++[z],none⟩::R) (putO F d (.ptr R.length bs.length 0)) g' w' (a.put d x):=by
 cases hc with
 | val _ h=>cases h
 | alloc e _ he hz =>
  obtain ⟨it,zv,hit,hzv,hzr,hzi,hzo⟩:=rel_zeroOf (P:=P) (g:=g) (d:=T.length) hz
  obtain ⟨g',hg'⟩:=step_new (e:=e) I hF ht hd hT hzi hzr (zero_at hzo)
  refine ⟨_,_,g',?_,hg'⟩
  simp [execOp,he,Instr.alloc,zeroValue,typeInfo,hit,hzv,newVar,newRow]
theorem step_bx (I:Inv P T g w) (hF:FrRel P T g w nt F a.tmps) (ht:∀ t,tame (F t)=true) {d:Option Nat} (hd:inNt nt d=true) {bs:List (List V)} {R:St} (hT:T=⟨bs,none⟩::R) {n:Nat} {X:Opd} {cs:List V} (hc:CompOf P tk o (.box n X)) (hcs:cellsOf (strip (evO F X))=some cs) :
  ∃ x w' g',(execOp a.eval o).run P w=.ok (.value x) w'∧StepTo P T g w a nt (⟨bs++[cs],none⟩::R) (putO F d (.ptr R.length bs.length 0)) g' w' (a.put d x):=by
 cases hc with
 | val _ h=>cases h
 | box e _ x _ he hn hX =>
  obtain ⟨h1,h2⟩:=rel_cellsOf hcs (rel_strip (rel_opd hF hX))
  obtain ⟨g',hg'⟩:=step_new (e:=e) I hF ht hd hT h2 h1 (fun j e' xs hj=>strip_own (cellsOf_own hcs hj).2)
  refine ⟨_,_,g',?_,hg'⟩
  simp [execOp,he,Instr.box,newVar,newRow]
theorem step_mv (I:Inv P T g w) (hF:FrRel P T g w nt F a.tmps) (hfl:Flat T) {d:Option Nat} (hd:inNt nt d=true) {s:Nat} (ht:tame (F s)=true) :
  ∃ g',StepTo P T g w a nt T (putO (put F s (strip (F s))) d (F s)) g' w (a.put d (a.eval (.tmp s))):=by
 have hF1:=hF.strip s
 have hrel:Rel g T.length (F s) (a.eval (.tmp s)):=rel_tmp hF s
 by_cases ho:∃ e xs,F s=.slice (.own e) xs
 ·obtain ⟨e,xs,hFs⟩:=ho
  obtain ⟨_,hs0,hs1,_,hO⟩:=evO_own (x:=.tmp s) (X:=.t s) hF rfl hFs
  cases hs0
  obtain ⟨n,cs,h1,h2,h3,h4,h5⟩:=hO
  rw [hFs] at hrel hF1 ⊢
  rcases h4.2 with ⟨hv,h0⟩ | ⟨b,cap,cur,hv,_,hh,_⟩
  ·rw [hv]
   have hxs:xs=[]:=List.eq_nil_of_length_eq_zero h0
   subst hxs
   have hq:∀ t',d=some t'→TmpAt P T g w t' (.slice (.own e) []) (.slice none 0 0):=fun t' _=>by
    refine ⟨by rw [hv] at hrel; exact hrel,fun e' xs' hv=>?_,fun z hv=>(by cases hv),fun l i o e xs hv=>(by cases hv)⟩
    simp only [V.slice.injEq,SK.own.injEq] at hv
    obtain ⟨rfl,rfl⟩:=hv
    exact ⟨n,[],h1,h2,by simp,World.ownsRow_nil _ 0 e n,fun b hb=>by simp [Value.ownBlock] at hb⟩
   exact ⟨g,step_quiet I hF1 hfl hd hq⟩
  ·rw [hv] at hrel h4 h5 ⊢
   simp only [Rel] at hrel
   obtain ⟨ad,nx,cx,hxe,_,_,_,hrow,_⟩:=hrel
   simp only [Value.slice.injEq] at hxe
   obtain ⟨rfl,rfl,rfl⟩:=hxe
   obtain ⟨k1,k2,k3⟩:=own_vals I h3 h4 hrow
   have hb:=h5 b rfl
   exact step_own (so:=some s) I hF1 hfl hd h1 h2 h3 h4 k1 k2 rfl rfl rfl (Nat.le_refl _) (fun _ _ _=>rfl) (fun _=>⟨s,rfl,hb.1⟩) (Array.getElem?_eq_some_iff.1 hh).1
    (fun oo u hu=>by
     have h6:=hb.2 oo u hu
     refine ⟨h6,?_⟩
     have hc':oo < cs.length:=by rw [h4.1]; exact h6
     have h7:=k3 oo _ (List.getElem?_eq_getElem hc')
     rw [hu] at h7
     injection h7 with h7
     rw [h7]; exact List.getElem?_eq_getElem hc')
    (fun s' hs'=>by injection hs' with hs'; subst hs'; rw [put_same]; rfl)
 ·exact ⟨g,step_quiet I hF1 hfl hd fun t' _=>TmpAt.calm (isCalm_of ht fun e xs h=>ho ⟨e,xs,h⟩) hrel⟩
end
end AM
end Go.Proofs.Ytimfbnojmdnlnaa
end
section
namespace Go.Proofs.Ytimfbnojmdnlnaa
namespace AM
section
variable {P:Program} {T:St} {g:Gh} {w:World} {nt:Nat} {F:Fr} {a:Act} {tk:Option Nat→Bool} {o:Oper} {cE:CE}
def Gh.use1 (g:Gh) (ob:Option Nat) (u:Use):Gh:=⟨g.G,g.bx,g.lp,fun b'=>if ob=some b' then u else g.use b',g.al⟩
theorem le_use1 {ob:Option Nat} {c:Loc} {u:Use} (n:Nat) (hu:∀ b,ob=some b→g.use b=.row c):Le n g (g.use1 ob u):={
 G _ _ _ h:=h
 bx l i p _ h:=⟨rfl,h⟩
 lp l _ h:=by
  refine ⟨rfl,?_⟩
  simp only [Gh.use1]
  split
  ·rename_i e; rw [hu _ e] at h; cases h
  ·exact h }
theorem same_use1 {ob:Option Nat} {c:Loc} {u:Use} (hu:∀ b,ob=some b→g.use b=.row c):Same (·=.row c) g w (g.use1 ob u) w :=
 ⟨rfl,rfl,rfl,Nat.le_refl _,fun b hb h=>⟨rfl,by
  simp only [Gh.use1]
  split
  ·rename_i e; exact absurd (hu _ e) h
  ·rfl,fun _=>rfl⟩⟩
def tmpUse (d:Option Nat):Use:=match d with | some d=>.row (.tmp d) | none=>.free
theorem tmpUse_row (d:Option Nat):tmpUse d=.free∨∃ c,tmpUse d=.row c:=by cases d<;>simp [tmpUse]
theorem OwnAt.use1 {c:Loc} {e:Nat} {x:Value} {xs:List (List V)} (h:OwnAt P g w c e x xs) (c':Loc):OwnAt P (g.use1 x.ownBlock (.row c')) w c' e x xs:=by
 obtain ⟨n,cs,h1,h2,h3,h4,h5⟩:=h
 exact ⟨n,cs,h1,h2,h3,h4,fun b hb=>⟨by simp [Gh.use1,hb],(h5 b hb).2⟩⟩
theorem lt_set {α:Type} {xs:List α} {o j:Nat} {v:α}:(xs.set o v)[j]?=if j=o then (if o < xs.length then some v else none) else xs[j]?:=by
 rw [List.getElem?_set]
 by_cases h:o=j
 ·subst h; simp
 ·simp [h,Ne.symm h]
theorem isCells_set {cs:List V} {o:Nat} {v:V} (h:isCells cs=true) (hv:isCell v=true):isCells (cs.set o v)=true:=by
 refine isCells_iff.2 fun c hc=>?_
 rcases List.mem_or_eq_of_mem_set hc with h1 | rfl
 ·exact isCells_iff.1 h c h1
 ·exact hv
theorem inv_take (I:Inv P T g w) (hfl:Flat T) {l i o e:Nat} {xs:List (List V)} {cs:List V} (hb:getBox T l i=some cs) (ho:cs[o]?=some (.slice (.own e) xs)) (d:Option Nat) :
  ∃ x g',w.cell? ⟨g.bx l i,o,none⟩=some x∧Rel g T.length (.slice (.own e) xs) x∧(∀ n,Le n g g')∧Same (·=.row (.cell l i o)) g w g' w∧Inv P (setBox T l i (cs.set o (.slice .shut xs))) g' w ∧
   ∀ t,d=some t→OwnAt P g' w (.tmp t) e x xs:=by
 obtain ⟨hu,vs,ty,ex,hh,hi,hr,hown,hal⟩:=I.B l i cs hb
 obtain ⟨x,hx,hrx⟩:=relL_at hr ho
 have hO:=hown o e xs x ho hx
 have huse:∀ b,x.ownBlock=some b→g.use b=.row (.cell l i o):=fun b hb=>by
  obtain ⟨n,cs',h1,h2,h3,h4,h5⟩:=hO
  exact (h5 b hb).1
 have hsame:Same (·=.row (.cell l i o)) g w (g.use1 x.ownBlock (tmpUse d)) w:=same_use1 huse
 have hlt:=getBox_lt hb
 refine ⟨x,g.use1 x.ownBlock (tmpUse d),cell_box hh hx,rel_mono (Le.refl _ g) (by omega) _ _ hrx,fun n=>le_use1 n huse,hsame,?_,fun t ht=>by subst ht; exact hO.use1 _⟩
 refine I.step hsame (le_use1 _ huse) (fun b o' v hv hc=>?_) (fun b hb'=>?_) (fun l' i' cs' hc=>?_) (fun l' p hp=>?_) (fun l' i' hl hn=>?_)
 ·obtain ⟨h1,h2⟩:=I.G b o' v hv
  refine ⟨h1,?_⟩
  simp only [Gh.use1]
  split
  ·exact tmpUse_row d
  ·exact h2
 ·simp only [Gh.use1]
  split
  ·rename_i he
   have:=use_lt I (b:=b) (by rw [huse b he]; simp)
   omega
  ·exact I.U b hb'
 ·rw [getBox_setBox hb (isCells_set hi rfl)] at hc
  split at hc
  ·rename_i hli
   obtain ⟨rfl,rfl⟩:=hli
   injection hc with hc; subst hc
   right
   have hle:=le_use1 (g:=g) (ob:=x.ownBlock) (c:=.cell l' i' o) (u:=tmpUse d) (l'+1) huse
   refine ⟨by
    show (g.use1 x.ownBlock (tmpUse d)).use (g.bx l' i')=_
    simp only [Gh.use1]
    split
    ·rename_i e; rw [huse _ e] at hu; cases hu
    ·exact hu,vs,ty,ex,hh,isCells_set hi rfl,?_,fun j e' ys y hj hy=>?_,hal⟩
   ·refine relL_iff.2 ⟨by rw [List.length_set]; exact relL_length hr,fun j v y hv hy=>?_⟩
    rw [lt_set] at hv
    split at hv
    ·rename_i hjo
     subst hjo
     rw [hx] at hy; injection hy with hy; subst hy
     split at hv
     ·injection hv with hv; subst hv
      exact rel_strip (rel_mono hle (Nat.le_refl _) _ _ hrx)
     ·cases hv
    ·exact rel_mono hle (Nat.le_refl _) _ _ ((relL_iff.1 hr).2 j v y hv hy)
   ·rw [lt_set] at hj
    split at hj
    ·split at hj<;>simp at hj
    ·rename_i hjo
     exact (hown j e' ys y hj hy).same hsame (by simpa using hjo)
  ·rename_i hli
   exact .inl ⟨hc,by simp,fun j=>by
    simp only [Use.row.injEq,Loc.cell.injEq,not_and]
    intro h1 h2
    exact absurd ⟨h1,h2⟩ hli⟩
 ·rw [getLp_setBox] at hp
  exact .inl ⟨hp,by simp,hfl.lp hp⟩
 ·rw [length_setBox] at hl
  rw [lenAt_setBox] at hn
  exact I.N l' i' hl hn
theorem step_ld (I:Inv P T g w) (hF:FrRel P T g w nt F a.tmps) (ht:∀ t,tame (F t)=true) (hfl:Flat T) {d:Option Nat} (hd:inNt nt d=true) {n l i p e:Nat} {X:Opd} {xs:List (List V)} {cs:List V} (hc:CompOf P tk o (.ld true n false X))
  (hX:evO F X=.ptr l i p) (hb:getBox T l i=some cs) (ho:cs[p]?=some (.slice (.own e) xs)) :
  ∃ x g',(execOp a.eval o).run P w=.ok (.value x) w∧StepTo P T g w a nt (setBox T l i (cs.set p (.slice .shut xs))) (putO F d (.slice (.own e) xs)) g' w (a.put d x):=by
 generalize hk:AOp.ld true n false X=op at hc
 cases hc with
 | val op h=>subst hk; cases h
 | load t _ gg x X' he hn hg hxX =>
  simp only [AOp.ld.injEq] at hk
  obtain ⟨_,rfl,rfl,rfl⟩:=hk
  obtain ⟨y,g',h1,h2,h3,h4,h5,h6⟩:=inv_take I hfl hb ho d
  have hrx:=rel_opd hF hxX
  rw [hX] at hrx
  simp only [Rel] at hrx
  obtain ⟨_,_,hxe⟩:=hrx
  refine ⟨y,g',?_,h3 _,h4.frm (by simp),h5,?_,length_setBox _ _ _ _,hfl.setBox _ _ _,put_defs _ _ _,fun b hb' hu=>?_⟩
  ·simp [execOp,he,hxe,Instr.loadAt,Instr.sureAddr,loadVar,run_isAgg hg,h1]
  ·refine FrRel.put hF.size hF.past hd (fun t y _ hy=>(hF.tmp t y hy).same I h4 (h3 _) (length_setBox _ _ _ _) (by simp) (.inl (not_mir (ht t)))) (fun t hdt=>⟨?_,fun e' xs' hv=>?_,fun z hv=>(by cases hv),fun l i o e xs hv=>(by cases hv)⟩)
   ·rw [length_setBox]; exact rel_mono (h3 _) (Nat.le_refl _) _ _ h2
   ·simp only [V.slice.injEq,SK.own.injEq] at hv
    obtain ⟨rfl,rfl⟩:=hv
    exact h6 t hdt
  ·obtain ⟨k1,k2,_⟩:=h4.old b hb' (by rw [hu]; simp)
   exact ⟨k2.trans hu,k1⟩
 | _=>simp at hk
theorem setAt_get {cs vs:List V} {o j:Nat} (h:o+vs.length≤cs.length):(setAt cs o vs)[j]?=if o≤j∧j < o+vs.length then vs[j - o]? else cs[j]?:=by
 have hl:(cs.take o).length=o:=by simp; omega
 show (cs.take o++vs++cs.drop (o+vs.length))[j]?=_
 rcases Nat.lt_or_ge j o with h1 | h1
 ·rw [if_neg (by omega),List.append_assoc,List.getElem?_append_left (by omega),List.getElem?_take,if_pos h1]
 ·rcases Nat.lt_or_ge j (o+vs.length) with h2 | h2
  ·rw [if_pos ⟨h1,h2⟩,List.getElem?_append_left (by simp [hl]; omega),List.getElem?_append_right (by omega),hl]
  ·rw [if_neg (by omega),List.getElem?_append_right (by simp; omega),List.getElem?_drop]
   congr 1
   simp [hl]
   omega
theorem step_st (I:Inv P T g w) (hF:FrRel P T g w nt F a.tmps) (ht:∀ t,tame (F t)=true) (hfl:Flat T) {d:Option Nat} (hd:inNt nt d=true) {n l i p:Nat} {X Y:Opd} {cs vs:List V} (hc:CompOf P tk o (.st n X Y))
  (hX:evO F X=.ptr l i p) (hb:getBox T l i=some cs) (hvs:cellsOf (evO F Y)=some vs) (hn:vs.length=n) (hp:p+n≤cs.length) (hlow:lowL (l+1) vs=true) :
  ∃ w' g',(execOp a.eval o).run P w=.ok .skip w'∧StepTo P T g w a nt (setBox T l i (setAt cs p vs)) (putO (unown F Y) d (.tup [])) g' w' (a.put d undef):=by
 cases hc with
 | val _ h=>cases h
 | store t _ x y _ _ he hsz hxX hyY =>
  obtain ⟨hu,us,ty,ex,hh,hi,hr,hown,hal⟩:=I.B l i cs hb
  have hlt:=getBox_lt hb
  have hrx:=rel_opd hF hxX
  rw [hX] at hrx
  simp only [Rel] at hrx
  obtain ⟨_,_,hxe⟩:=hrx
  obtain ⟨hrv,hiv⟩:=rel_cellsOf hvs (rel_opd hF hyY)
  have hvl:=relL_length hrv
  have hul:=relL_length hr
  have hsize:(a.eval y).cells.size=n:=by simp at hvl; omega
  have h1:=oneCells_of_rel hiv hrv
  have hst:=run_storeCells_at P (g.bx l i) p ty (a.eval y).cells.toList 0 ⟨us++ex⟩ w hh (by simp; omega) h1
  simp only [Nat.add_zero,Array.length_toList] at hst
  have hsplit:(us++ex).take p++(a.eval y).cells.toList++(us++ex).drop (p+(a.eval y).cells.size)=(us.take p++(a.eval y).cells.toList++us.drop (p+(a.eval y).cells.size))++ex:=by
   rw [List.take_append_of_le_length (by omega),List.drop_append_of_le_length (by omega)]
   simp only [List.append_assoc]
  have hexec:(execOp a.eval o).run P w=.ok .skip (w.setRow (g.bx l i) ((us.take p++(a.eval y).cells.toList++us.drop (p+(a.eval y).cells.size))++ex).toArray):=by
   simp only [execOp,he,Instr.storeAt,hxe,Instr.sureAddr,storeVar,Sem.run_bind,Sem.run_pure,Result.andThen_ok,run_sizeOf hsz,hsize,ne_eq,not_true_eq_false,if_false]
   rw [hst,hsplit,hsize]
   rfl
  -- who is owned
  obtain ⟨so,ob,hob,hso,hO⟩:∃ so ob,(∀ b,ob=some b→OfTmp so (g.use b))∧(∀ s,so=some s→isCalm (unown F Y s)=true) ∧
    ∀ j e xs x,vs[j]?=some (.slice (.own e) xs)→(a.eval y).cells.toList[j]?=some x→j=0∧ob=x.ownBlock∧∃ s,so=some s∧OwnAt P g w (.tmp s) e x xs:=by
   by_cases ho:∃ e xs,evO F Y=.slice (.own e) xs
   ·obtain ⟨e,xs,hY⟩:=ho
    obtain ⟨s,rfl,rfl,hFs,hO⟩:=evO_own hF hyY hY
    have hone:(a.eval (.tmp s)).cells=#[a.eval (.tmp s)]:=by
     have:=rel_opd hF hyY
     rw [hY] at this
     simp only [Rel] at this
     obtain ⟨_,_,_,hx,_⟩:=this
     rw [hx]; rfl
    refine ⟨some s,(a.eval (.tmp s)).ownBlock,fun b hb'=>⟨s,rfl,?_⟩,fun s' hs'=>?_,fun j e' xs' x' hj hx'=>?_⟩
    ·obtain ⟨n',cs',k1,k2,k3,k4,k5⟩:=hO
     exact (k5 b hb').1
    ·injection hs' with hs'; subst hs'
     simp only [unown,put_same,hFs]
     rfl
    ·obtain ⟨rfl,hv⟩:=cellsOf_own hvs hj
     rw [hY] at hv
     simp only [V.slice.injEq,SK.own.injEq] at hv
     obtain ⟨rfl,rfl⟩:=hv
     rw [hone] at hx'
     simp at hx'
     subst hx'
     exact ⟨rfl,rfl,s,rfl,hO⟩
   ·exact ⟨none,none,by simp,by simp,fun j e xs x hj _=>absurd (cellsOf_own hvs hj).2 fun h=>ho ⟨e,xs,h⟩⟩
  let g':=g.use1 ob (.row (.cell l i p))
  let U:Use→Prop:=fun u=>u=.box l i∨OfTmp so u
  have hobx:∀ b,ob=some b→∃ c,g.use b=.row c:=fun b hb'=>by obtain ⟨s,_,h⟩:=hob b hb'; exact ⟨_,h⟩
  have hle:∀ m,Le m g g':=fun m=>⟨fun _ _ _ h=>h,fun l i _ _ h=>⟨rfl,h⟩,fun l _ h=>⟨rfl,by
   simp only [g',Gh.use1]
   split
   ·rename_i e; obtain ⟨c,hc⟩:=hobx _ e; rw [hc] at h; cases h
   ·exact h⟩⟩
  have hsame:Same U g w g' (w.setRow (g.bx l i) ((us.take p++(a.eval y).cells.toList++us.drop (p+(a.eval y).cells.size))++ex).toArray):=by
   refine ⟨rfl,rfl,rfl,by simp,fun k hk hku=>⟨setRow_other w _ k _ (fun e=>hku (.inl (e ▸ hu))),?_,fun _=>rfl⟩⟩
   simp only [g',Gh.use1]
   split
   ·rename_i e; exact absurd (.inr (hob k e)) hku
   ·rfl
  have hbl:g.bx l i < w.heap.size:=(Array.getElem?_eq_some_iff.1 hh).1
  have hinv:Inv P (setBox T l i (setAt cs p vs)) g' (w.setRow (g.bx l i) ((us.take p++(a.eval y).cells.toList++us.drop (p+(a.eval y).cells.size))++ex).toArray):=by
   refine I.step hsame (hle _) (fun b o' v hv hc=>?_) (fun b hb'=>?_) (fun l' i' cs' hc=>?_) (fun l' p' hp'=>?_) (fun l' i' hl hn'=>?_)
   ·obtain ⟨k1,k2⟩:=I.G b o' v hv
    have hne:b≠g.bx l i:=fun e=>by rw [e,hu] at k2; simp at k2
    refine ⟨by rw [cell?_eq (setRow_other w _ b _ hne)]; exact k1,?_⟩
    simp only [g',Gh.use1]
    split
    ·exact .inr ⟨_,rfl⟩
    ·exact k2
   ·simp at hb'
    simp only [g',Gh.use1]
    split
    ·rename_i e
     obtain ⟨c,hc⟩:=hobx b e
     have:=use_lt I (b:=b) (by rw [hc]; simp)
     omega
    ·exact I.U b hb'
   ·rw [getBox_setBox hb (isCells_setAt hi hiv)] at hc
    split at hc
    ·rename_i hli
     obtain ⟨rfl,rfl⟩:=hli
     injection hc with hc; subst hc
     right
     have hheap:=setRow_heap w (g.bx l' i') ⟨us++ex⟩ ((us.take p++(a.eval y).cells.toList++us.drop (p+(a.eval y).cells.size))++ex).toArray ty (0,0) hh
     refine ⟨by
      show g'.use (g.bx l' i')=_
      simp only [g',Gh.use1]
      split
      ·rename_i e; obtain ⟨c,hc⟩:=hobx _ e; rw [hc] at hu; cases hu
      ·exact hu,_,ty,ex,hheap,isCells_setAt hi hiv,?_,fun j e' ys z hj hz=>?_,by
      show g.al l' i'=_
      rw [hal]
      simp
      omega⟩
     ·have:=relL_setAt (off:=p) hr (relL_low vs _ hlow hrv)
      simp only [Array.length_toList] at this
      exact relL_mono (hle (l'+1)) (Nat.le_refl _) _ _ this
     ·rw [setAt_get (by omega)] at hj
      have hz':(us.take p++(a.eval y).cells.toList++us.drop (p+(a.eval y).cells.size))[j]?=if p≤j∧j < p+n then (a.eval y).cells.toList[j - p]? else us[j]?:=by
       have hl0:(us.take p).length=p:=by simp; omega
       rcases Nat.lt_or_ge j p with q1 | q1
       ·rw [if_neg (by omega),List.append_assoc,List.getElem?_append_left (by omega),List.getElem?_take,if_pos q1]
       ·rcases Nat.lt_or_ge j (p+n) with q2 | q2
        ·rw [if_pos ⟨q1,q2⟩,List.getElem?_append_left (by simp [hl0]; omega),List.getElem?_append_right (by omega),hl0]
        ·rw [if_neg (by omega),List.getElem?_append_right (by simp; omega),List.getElem?_drop]
         congr 1
         simp [hl0]
         omega
      rw [hz'] at hz
      rw [hn] at hj
      split at hj
      ·rename_i hjr
       rw [if_pos hjr] at hz
       obtain ⟨h0,hob',s,hs,hO'⟩:=hO (j - p) e' ys z hj hz
       have hjp:j=p:=by omega
       subst hjp
       obtain ⟨n',cs',k1,k2,k3,k4,k5⟩:=hO'
       refine ⟨n',cs',k1,k2,k3,ownsRow_same k4 fun b hb'=>setRow_other w _ b _ (fun e=>?_),fun b hb'=>⟨by simp [g',Gh.use1,hob',hb'],(k5 b hb').2⟩⟩
       have:=(k5 b hb').1
       rw [e,hu] at this
       cases this
      ·rename_i hjr
       rw [if_neg hjr] at hz
       exact (hown j e' ys z hj hz).same hsame (fun h=>h.elim (fun h=>by cases h) ofTmp_cell)
    ·rename_i hli
     exact .inl ⟨hc,by
      rintro (h | h)
      ·simp only [Use.box.injEq] at h; exact hli h
      ·exact ofTmp_box h,fun j=>by
      rintro (h | h)
      ·cases h
      ·exact ofTmp_cell h⟩
   ·rw [getLp_setBox] at hp'
    exact .inl ⟨hp',fun h=>h.elim (fun h=>by cases h) ofTmp_loop,hfl.lp hp'⟩
   ·rw [length_setBox] at hl
    rw [lenAt_setBox] at hn'
    exact I.N l' i' hl hn'
  refine ⟨_,g',hexec,hle _,hsame.frm (fun h=>h.elim (fun h=>by cases h) ofTmp_free),hinv,?_,length_setBox _ _ _ _,hfl.setBox _ _ _,put_defs _ _ _,fun b hb' hu'=>?_⟩
  ·have hF1:FrRel P T g w nt (unown F Y) a.tmps:=by
    cases Y with
    | t s=>exact hF.strip s
    | c _=>exact hF
   have ht1:=tame_unown (X:=Y) ht
   refine FrRel.put hF1.size hF1.past hd (fun t y _ hy=>?_) (fun t _=>TmpAt.calm rfl (by simp only [Rel,RelL]; exact ⟨[],rfl,rfl⟩))
   by_cases hts:so=some t
   ·refine TmpAt.calm (hso t hts) ?_
    rw [length_setBox]
    exact rel_mono (hle _) (Nat.le_refl _) _ _ (hF1.tmp t y hy).rel
   ·exact (hF1.tmp t y hy).same I hsame (hle _) (length_setBox _ _ _ _) (by
     rintro (h | ⟨s,h1,h2⟩)
     ·cases h
     ·cases h2; exact hts h1) (.inl (not_mir (ht1 t)))
  ·obtain ⟨k1,k2,_⟩:=hsame.old b hb' (by
    rw [hu']
    rintro (h | h)
    ·cases h
    ·exact ofTmp_mark h)
   exact ⟨k2.trans hu',k1⟩
end
end AM
end Go.Proofs.Ytimfbnojmdnlnaa
end
section
namespace Go.Proofs.Ytimfbnojmdnlnaa
namespace AM
def keepU (n:Nat):Use→Bool
 | .box l _=>decide (l < n)
 | .row (.cell l _ _)=>decide (l < n)
 | .loop l=>decide (l < n)
 | _=>false
def Clean (n:Nat) (g:Gh):Prop:=(∀ b,g.use b=.free∨keepU n (g.use b)=true)∧∀ l i,n≤l→g.al l i=none
structure Done (T:St) (g:Gh) (w:World) (g':Gh) (w':World):Prop where
 le:Le T.length g g'
 top:∀ l,l+1=T.length→g.use (g.lp l)=.loop l→g'.lp l=g.lp l∧g'.use (g.lp l)=.loop l
 frm:Frm g w g' w'
def OutPost (P:Program) (T:St) (g:Gh) (w:World) (T':St) (out:Out) (e:Ending) (w':World):Prop :=
 match out with
 | .ret v=>∃ g' x,e=.returned x∧Done T g w g' w'∧Inv P T' g' w'∧T'.length=T.length∧Rel g' T.length v x∧tame v=true∧∀ e xs,v=.slice (.own e) xs→OwnAt P g' w' .res e x xs
 | .pan v=>∃ g' x,e=.panicked [{ v:=x,recovered:=false }]∧Done T g w g' w'∧Inv P T' g' w'∧T'.length=T.length∧Rel g' 0 v x
 | .esc v L=>∃ g' x,e=.returned x∧Done T g w g' w'∧Inv P (⟨L,none⟩::T') g' w'∧T'.length=T.length∧Rel g' (T.length+1) v x∧isCalm v=true
def Enters (P : Program) (f : Nat) : Prop := ∃ fn,P.funcs[f]? = some fn ∧ fn.name ≠ "runtime.NumGoroutine" ∧ fn.body.isSome = true
def CallOk (P:Program) (cE:CE):Prop :=
 ∀ (c:Callee) (args:List V) (T:St) (out:Out) (T':St),cE c args T=some (out,T')→∀ (g:Gh) (w:World) (vals:List Value),Inv P T g w→Clean T.length g→RelL g (T.length+1) args vals→(∀ v∈args,isCalm v=true) →
  match c with
  | .fn f=>Enters P f∧CallsIn Fence.wide 0 P f ⟨vals⟩ w (OutPost P T g w T' out)
  | .yield l=>l < T.length→g.use (g.lp l)=.loop l→∃ r:Loop,w.heap[g.lp l]?=some (.loop r)∧vals.length=r.params.size ∧
    RoundIn Fence.wide 0 P (g.lp l) r.fn ((r.params.zip ⟨vals⟩).foldl (fun tmps (t,a)=>tmps.setIfInBounds t a) r.tmps) r.assign r.body w (OutPost P T g w T' out)
def MethOk (P:Program) (meth:Nat→String→Option Nat):Prop :=
 ∀ t m f,meth t m=some f→∀ (v:Value) (w:World),(method (P.types.size+Made.depth) t v m).run P w=.ok (f,v) w
theorem run_callFunc {P:Program} {f:Nat} (h:Enters P f) (args:Array Value) (w:World):(callFunc f args).run P w=.ok (.enter f args) w:=by
 obtain ⟨fn,h1,h2,h3⟩:=h
 have h4:fn.body≠none:=by intro h; rw [h] at h3; cases h3
 simp [callFunc,h1,h2,h4]
section
variable {P:Program} {T:St} {g:Gh} {w:World} {nt:Nat} {F:Fr} {a:Act} {tk:Option Nat→Bool} {o:Oper} {cE:CE}
def Gh.clear (g:Gh):Gh:=⟨g.G,g.bx,g.lp,fun _=>.free,fun _ _=>none⟩
theorem inv_clear (I:Inv P T g w):Inv P [] g.clear w:={
 K:=I.K
 G b o v h:=⟨(I.G b o v h).1, .inl rfl⟩
 U _ _:=rfl
 B l i cs h:=by simp [getBox] at h
 L l p h:=by simp [getLp] at h
 N l i h:=by simp at h }
theorem clean_clear (n:Nat):Clean n g.clear:=⟨fun _=>.inl rfl,fun _ _ _=>rfl⟩
theorem le0_clear:Le 0 g g.clear:=⟨fun _ _ _ h=>h,fun _ _ _ h=>absurd h (Nat.not_lt_zero _),fun _ h=>absurd h (Nat.not_lt_zero _)⟩
def Gh.merge (g g1:Gh) (n:Nat) (d:Option Nat):Gh:=⟨g1.G,g.bx,g.lp,fun b=>if b < n then g.use b else match g1.use b with | .row .res=>tmpUse d | _=>.free,g.al⟩
theorem inv_merge (I:Inv P T g w) (hfl:Flat T) {g1:Gh} {w1:World} {T1:St} (hfrm:Frm g.clear w g1 w1) (I1:Inv P T1 g1 w1) (d:Option Nat) :
  (∀ m,Le m g (g.merge g1 w.heap.size d))∧Le 0 g1 (g.merge g1 w.heap.size d)∧Same (fun _=>False) g w (g.merge g1 w.heap.size d) w1∧Inv P T (g.merge g1 w.heap.size d) w1:=by
 have hle:∀ m,Le m g (g.merge g1 w.heap.size d):=fun m=>by
  refine ⟨fun b o v h=>?_,fun l i _ _ h=>⟨rfl,h⟩,fun l _ h=>⟨rfl,?_⟩⟩
  ·have hb:=G_lt I h
   have:=(hfrm.old b hb rfl).2.2 o
   exact this.trans h
  ·simp only [Gh.merge]; rw [if_pos (use_lt I (by rw [h]; simp))]; exact h
 have hle1:Le 0 g1 (g.merge g1 w.heap.size d):=⟨fun _ _ _ h=>h,fun _ _ _ h=>absurd h (Nat.not_lt_zero _),fun _ h=>absurd h (Nat.not_lt_zero _)⟩
 have hsame:Same (fun _=>False) g w (g.merge g1 w.heap.size d) w1:=⟨hfrm.os,hfrm.tape,hfrm.output,hfrm.size,fun b hb _=>⟨(hfrm.old b hb rfl).1,by simp [Gh.merge,hb],fun o=>(hfrm.old b hb rfl).2.2 o⟩⟩
 refine ⟨hle,hle1,hsame,I.step hsame (hle _) (fun b o v hv hc=>?_) (fun b hb=>?_) (fun l i cs hc=>.inl ⟨hc,fun h=>h,fun _ h=>h⟩) (fun l p hp=>.inl ⟨hp,fun h=>h,hfl.lp hp⟩) (fun l i hl hn=>?_)⟩
 ·have hb:w.heap.size≤b:=hc.elim (fun h=>h.1.elim) id
  refine ⟨(I1.G b o v hv).1,?_⟩
  simp only [Gh.merge]
  rw [if_neg (by omega)]
  split
  ·exact tmpUse_row d
  ·exact .inl rfl
 ·have:=hfrm.size
  simp only [Gh.merge]
  rw [if_neg (by omega),I1.U b hb]
 ·exact I.N l i hl hn
theorem step_call0 (I:Inv P T g w) (hF:FrRel P T g w nt F a.tmps) (hfl:Flat T) {d:Option Nat} (hd:inNt nt d=true) {g1:Gh} {w1:World} {T1:St} (hfrm:Frm g.clear w g1 w1) (I1:Inv P T1 g1 w1) {v:V} {x:Value} (hr:Rel g1 0 v x) (ht:tame v=true)
  (ho:∀ e xs,v=.slice (.own e) xs→OwnAt P g1 w1 .res e x xs):∃ g',StepTo P T g w a nt T (putO F d v) g' w1 (a.put d x):=by
 obtain ⟨hle,hle1,hsame,hinv⟩:=inv_merge I hfl hfrm I1 d
 refine ⟨_,hle _,hsame.frm (fun h=>h),hinv,?_,rfl,hfl,put_defs _ _ _,fun b hb hu=>?_⟩
 ·refine FrRel.put hF.size hF.past hd (fun t y _ hy=>(hF.tmp t y hy).same I hsame (hle _) rfl (fun h=>h) (.inr ⟨rfl,fun _ _ h=>h⟩)) (fun t hdt=>⟨?_,fun e xs hv=>?_,fun z hv=>(by subst hv; cases ht),fun l i o e xs hv=>(by subst hv; cases ht)⟩)
  ·exact rel_mono hle1 (Nat.zero_le _) _ _ hr
  ·obtain ⟨n,cs,h1,h2,h3,h4,h5⟩:=ho e xs hv
   refine ⟨n,cs,h1,h2,h3,h4,fun b hb=>⟨?_,(h5 b hb).2⟩⟩
   have h6:=(h5 b hb).1
   simp only [Gh.merge]
   have:¬ b < w.heap.size:=fun hlt=>by
    have:=(hfrm.old b hlt rfl).2.1
    rw [h6] at this; cases this
   rw [if_neg this,h6]
   subst hdt
   rfl
 ·obtain ⟨h1,h2,_⟩:=hsame.old b hb (fun h=>h)
  exact ⟨h2.trans hu,h1⟩
def Gh.drop (g:Gh) (n:Nat):Gh:=⟨g.G,g.bx,g.lp,fun b=>if keepU n (g.use b)=true then g.use b else .free,fun l i=>if l < n then g.al l i else none⟩
theorem drop_keep {n b:Nat} (h:keepU n (g.use b)=true):(g.drop n).use b=g.use b:=by simp [Gh.drop,h]
theorem drop_free {n b:Nat} (h:keepU n (g.use b)=false):(g.drop n).use b=.free:=by simp [Gh.drop,h]
theorem clean_drop (n:Nat):Clean n (g.drop n):=⟨fun b=>by
 by_cases h:keepU n (g.use b)=true
 ·right; rw [drop_keep h]; exact h
 ·left; simp only [Gh.drop]; rw [if_neg h],fun l i hl=>by
 simp only [Gh.drop]; rw [if_neg (by omega)]⟩
theorem le_drop {n:Nat}:Le n g (g.drop n):={
 G _ _ _ h:=h
 bx l i p hl h:=⟨rfl,by simp only [Gh.drop]; rw [if_pos hl]; exact h⟩
 lp l hl h:=⟨rfl,by rw [drop_keep (by rw [h]; simp [keepU]; omega)]; exact h⟩ }
theorem same_drop {n:Nat}:Same (fun u=>keepU n u=false) g w (g.drop n) w :=
 ⟨rfl,rfl,rfl,Nat.le_refl _,fun b _ h=>⟨rfl,drop_keep (by simpa using h),fun _=>rfl⟩⟩
theorem inv_drop (I:Inv P T g w):Inv P T (g.drop T.length) w:={
 K:=I.K
 G b o v h:=by
  obtain ⟨h1,h2⟩:=I.G b o v h
  refine ⟨h1,?_⟩
  simp only [Gh.drop]
  split
  ·exact h2
  ·exact .inl rfl
 U b hb:=by simp only [Gh.drop]; rw [I.U b hb]; simp [keepU]
 B l i cs hc:=by
  have hl:=getBox_lt hc
  exact (I.B l i cs hc).same I same_drop (le_drop.less hl) (by simpa [keepU] using hl) (fun j=>by simpa [keepU] using hl)
 L l p hp:=by
  have hl:=getLp_lt hp
  have hu:=(I.L l p hp).1
  exact (I.L l p hp).same same_drop (le_drop.less hl) ⟨rfl,by rw [drop_keep (by rw [hu]; simpa [keepU] using hl)]; exact hu⟩ (by simpa [keepU] using hl)
 N l i hl hn:=by
  simp only [Gh.drop]
  rw [if_pos hl]
  exact I.N l i hl hn }
def isRes:Use→Bool
 | .row .res=>true
 | _=>false
theorem isRes_iff {u:Use}:isRes u=true ↔ u=.row .res:=by
 cases u with
 | row c=>cases c<;>simp [isRes]
 | _=>simp [isRes]
def Gh.give (g g1:Gh) (n N:Nat) (d:Option Nat):Gh :=
 ⟨g1.G,g1.bx,g1.lp,fun b=>if b < N∧keepU n (g.use b)=false then g.use b else if isRes (g1.use b)=true then tmpUse d else if keepU n (g1.use b)=true then g1.use b else .free,g1.al⟩
theorem give_keep {g1:Gh} {w1:World} {n:Nat} {d:Option Nat} (hfrm:Frm (g.drop n) w g1 w1) {b:Nat} (h:keepU n (g1.use b)=true):(g.give g1 n w.heap.size d).use b=g1.use b:=by
 have h1:¬ (b < w.heap.size∧keepU n (g.use b)=false):=by
  rintro ⟨hb,hk⟩
  have:=(hfrm.old b hb (drop_free hk)).2.1
  rw [this] at h; cases h
 have h2:¬ isRes (g1.use b)=true:=fun e=>by rw [isRes_iff.1 e] at h; cases h
 simp only [Gh.give]
 rw [if_neg h1,if_neg h2,if_pos h]
theorem give_res {g1:Gh} {w1:World} {n:Nat} {d:Option Nat} (hfrm:Frm (g.drop n) w g1 w1) {b:Nat} (h:g1.use b=.row .res):(g.give g1 n w.heap.size d).use b=tmpUse d:=by
 have h1:¬ (b < w.heap.size∧keepU n (g.use b)=false):=by
  rintro ⟨hb,hk⟩
  have:=(hfrm.old b hb (drop_free hk)).2.1
  rw [this] at h; cases h
 simp only [Gh.give]
 rw [if_neg h1,if_pos (isRes_iff.2 h)]
theorem give_old {g1:Gh} {n N:Nat} {d:Option Nat} {b:Nat} (hb:b < N) (h:keepU n (g.use b)=false):(g.give g1 n N d).use b=g.use b:=by
 simp only [Gh.give]
 rw [if_pos ⟨hb,h⟩]
theorem le_give {g1:Gh} {w1:World} {n:Nat} {d:Option Nat} (hfrm:Frm (g.drop n) w g1 w1) (m:Nat) (hm:m≤n):Le m g1 (g.give g1 n w.heap.size d):={
 G _ _ _ h:=h
 bx l i p hl h:=⟨rfl,h⟩
 lp l hl h:=⟨rfl,by rw [give_keep hfrm (by rw [h]; simp [keepU]; omega)]; exact h⟩ }
theorem give_cases (g g1:Gh) (n N:Nat) (d:Option Nat) (b:Nat):(b < N∧keepU n (g.use b)=false∧(g.give g1 n N d).use b=g.use b)∨(g1.use b=.row .res∧(g.give g1 n N d).use b=tmpUse d)∨(keepU n (g1.use b)=true∧(g.give g1 n N d).use b=g1.use b)∨(g.give g1 n N d).use b=.free:=by
 simp only [Gh.give]
 by_cases h1:b < N∧keepU n (g.use b)=false
 ·exact .inl ⟨h1.1,h1.2,if_pos h1⟩
 ·rw [if_neg h1]
  by_cases h2:isRes (g1.use b)=true
  ·exact .inr (.inl ⟨isRes_iff.1 h2,if_pos h2⟩)
  ·rw [if_neg h2]
   by_cases h3:keepU n (g1.use b)=true
   ·exact .inr (.inr (.inl ⟨h3,if_pos h3⟩))
   ·rw [if_neg h3]
    exact .inr (.inr (.inr rfl))
theorem inv_give (I:Inv P T g w) {g1:Gh} {w1:World} {T1:St} (hd:Done T (g.drop T.length) w g1 w1) (I1:Inv P T1 g1 w1) (hlen:T1.length=T.length) (d:Option Nat) :
  Le T.length g (g.give g1 T.length w.heap.size d)∧(∀ l,l+1=T.length→g.use (g.lp l)=.loop l→g1.lp l=g.lp l∧(g.give g1 T.length w.heap.size d).use (g.lp l)=.loop l) ∧
   Same (fun u=>keepU T.length u=true) g w (g.give g1 T.length w.heap.size d) w1∧Inv P T1 (g.give g1 T.length w.heap.size d) w1:=by
 have hfrm:=hd.frm
 have hkl:∀ l,l < T.length→g.use (g.lp l)=.loop l→keepU T.length (g.use (g.lp l))=true:=fun l hl h=>by rw [h]; simpa [keepU] using hl
 have hle:Le T.length g (g.give g1 T.length w.heap.size d):=by
  refine ⟨fun b o v h=>hd.le.G b o v h,fun l i p hl h=>?_,fun l hl h=>?_⟩
  ·exact hd.le.bx l i p hl (by simp only [Gh.drop]; rw [if_pos hl]; exact h)
  ·have hl':l < T.length:=by omega
   obtain ⟨h1,h2⟩:=hd.le.lp l hl (by show (g.drop T.length).use (g.lp l)=_; rw [drop_keep (hkl l hl' h)]; exact h)
   refine ⟨h1,?_⟩
   have h2':g1.use (g.lp l)=.loop l:=h2
   rw [give_keep hfrm (by rw [h2']; simpa [keepU] using hl')]
   exact h2'
 refine ⟨hle,fun l hl h=>?_,⟨hfrm.os,hfrm.tape,hfrm.output,hfrm.size,fun b hb hk=>?_⟩,⟨I1.K,fun b o v h=>?_,fun b hb=>?_,fun l i cs hc=>?_,fun l p hp=>?_,fun l i hl hn=>?_⟩⟩
 ·have hl':l < T.length:=by omega
  obtain ⟨h1,h2⟩:=hd.top l hl (by show (g.drop T.length).use (g.lp l)=_; rw [drop_keep (hkl l hl' h)]; exact h)
  refine ⟨h1,?_⟩
  have h2':g1.use (g.lp l)=.loop l:=h2
  rw [give_keep hfrm (by rw [h2']; simpa [keepU] using hl')]
  exact h2'
 ·have hk':keepU T.length (g.use b)=false:=by simpa using hk
  obtain ⟨h1,h2,h3⟩:=hfrm.old b hb (drop_free hk')
  exact ⟨h1,give_old hb hk',fun o=>h3 o⟩
 ·obtain ⟨h1,h2⟩:=I1.G b o v h
  refine ⟨h1,?_⟩
  rcases give_cases g g1 T.length w.heap.size d b with ⟨hb,hk,e⟩ | ⟨_,e⟩ | ⟨_,e⟩ | e
  ·rw [e]
   have h3:=(hfrm.old b hb (drop_free hk)).2.2 o
   have h4:g.G b o=some v:=by
    have h5:g1.G b o=some v:=h
    rw [h3] at h5
    exact h5
   exact (I.G b o v h4).2
  ·rw [e]; exact tmpUse_row d
  ·rw [e]; exact h2
  ·exact .inl e
 ·have:=hfrm.size
  rcases give_cases g g1 T.length w.heap.size d b with ⟨hb',_,_⟩ | ⟨e1,_⟩ | ⟨e1,_⟩ | e
  ·omega
  ·rw [I1.U b hb] at e1; cases e1
  ·rw [I1.U b hb] at e1; cases e1
  ·exact e
 ·obtain ⟨hu,vs,e,ex,hh,hi,hr,ho,ha⟩:=I1.B l i cs hc
  have hl:=getBox_lt hc
  rw [hlen] at hl
  refine ⟨by show (g.give g1 T.length w.heap.size d).use (g1.bx l i)=_; rw [give_keep hfrm (by rw [hu]; simpa [keepU] using hl)]; exact hu,vs,e,ex,hh,hi,relL_mono (le_give hfrm (l+1) hl) (Nat.le_refl _) _ _ hr,fun j e' xs x hj hx=>?_,ha⟩
  obtain ⟨n,cs',h1,h2,h3,h4,h5⟩:=ho j e' xs x hj hx
  exact ⟨n,cs',h1,h2,h3,h4,fun b hb=>⟨by rw [give_keep hfrm (by rw [(h5 b hb).1]; simpa [keepU] using hl)]; exact (h5 b hb).1,(h5 b hb).2⟩⟩
 ·have hl:=getLp_lt hp
  rw [hlen] at hl
  have hu:=(I1.L l p hp).1
  obtain ⟨_,r,hh,hp',hc,hrg,hq,hn,hf,hj⟩:=I1.L l p hp
  exact ⟨by show (g.give g1 T.length w.heap.size d).use (g1.lp l)=_; rw [give_keep hfrm (by rw [hu]; simpa [keepU] using hl)]; exact hu,r,hh,hp',hc,hrg,hq,hn,fun t x hx=>⟨(hf t x hx).1,rel_mono (le_give hfrm (l+1) hl) (Nat.le_refl _) _ _ (hf t x hx).2⟩,hj⟩
 ·exact I1.N l i hl hn
theorem step_call (I:Inv P T g w) (hF:FrRel P T g w nt F a.tmps) (hm:∀ t y,a.tmps[t]?=some y→∀ l i o e xs,F t≠.mir l i o e xs) {d:Option Nat} (hd:inNt nt d=true) {g1:Gh} {w1:World} {T1:St} (hdn:Done T (g.drop T.length) w g1 w1) (I1:Inv P T1 g1 w1) (hlen:T1.length=T.length) (hfl:Flat T1)
  {v:V} {x:Value} (hr:Rel g1 T.length v x) (htv:tame v=true) (ho:∀ e xs,v=.slice (.own e) xs→OwnAt P g1 w1 .res e x xs):∃ g',StepTo P T g w a nt T1 (putO F d v) g' w1 (a.put d x):=by
 obtain ⟨hle,_,hsame,hinv⟩:=inv_give I hdn I1 hlen d
 refine ⟨_,hle,hsame.frm (by simp [keepU]),hinv,?_,hlen,hfl,put_defs _ _ _,fun b hb hu=>?_⟩
 ·refine FrRel.put hF.size hF.past hd (fun t y _ hy=>(hF.tmp t y hy).same I hsame hle hlen (by simp [keepU]) (.inl (hm t y hy))) (fun t hdt=>⟨?_,fun e xs hv=>?_,fun z hv=>(by subst hv; cases htv),fun l i o e xs hv=>(by subst hv; cases htv)⟩)
  ·rw [hlen]; exact rel_mono (le_give hdn.frm _ (Nat.le_refl _)) (Nat.le_refl _) _ _ hr
  ·obtain ⟨n,cs,h1,h2,h3,h4,h5⟩:=ho e xs hv
   refine ⟨n,cs,h1,h2,h3,h4,fun b hb=>⟨?_,(h5 b hb).2⟩⟩
   rw [give_res hdn.frm (h5 b hb).1]
   subst hdt
   rfl
 ·obtain ⟨h1,h2,_⟩:=hsame.old b hb (by rw [hu]; simp [keepU])
  exact ⟨h2.trans hu,h1⟩
end
end AM
end Go.Proofs.Ytimfbnojmdnlnaa
end
section
namespace Go.Proofs.Ytimfbnojmdnlnaa
namespace AM
section
variable {P:Program} {T:St} {g:Gh} {w:World} {nt:Nat} {F:Fr} {a:Act} {tk:Option Nat→Bool} {o:Oper} {cE:CE}
def embU (g1:Gh) (l2 base k b:Nat):Use :=
 match g1.use b with
 | .box l i=>if l=0∧i < k∧g1.bx 0 i=b then .box l2 (base+i) else .free
 | .row (.cell l i j)=>if l=0 then .row (.cell l2 (base+i) j) else .free
 | _=>.free
def Gh.embed (g g1:Gh) (n l2 base k:Nat):Gh :=
 ⟨g1.G,fun l i=>if l=l2∧base≤i∧i < base+k then g1.bx 0 (i - base) else g.bx l i,g.lp,fun b=>if b < n then g.use b else embU g1 l2 base k b,fun l i=>if l=l2∧base≤i∧i < base+k then g1.al 0 (i - base) else g.al l i⟩
theorem relocL_get {l1 l2 b:Nat}:∀ {cs:List V} {j:Nat},(relocL l1 l2 b cs)[j]?=(cs[j]?).map (reloc l1 l2 b)
 | [],j=>by simp [relocL]
 | c::cs,0=>by simp [relocL]
 | c::cs,j+1=>by simp [relocL,relocL_get (cs:=cs)]
theorem isCell_reloc {l1 l2 b:Nat} (v:V):isCell (reloc l1 l2 b v)=isCell v:=by
 cases v with
 | ptr l i o=>by_cases h:l=l1<;>simp [reloc,isCell,h]
 | bsl l i o n m e=>by_cases h:l=l1<;>simp [reloc,isCell,h]
 | _=>simp [reloc,isCell]
theorem isCells_reloc {l1 l2 b:Nat}:∀ (cs:List V),isCells (relocL l1 l2 b cs)=isCells cs
 | []=>rfl
 | c::cs=>by simp [relocL,isCells,isCell_reloc,isCells_reloc cs]
theorem isCalm_reloc {l1 l2 b:Nat} (v:V):isCalm (reloc l1 l2 b v)=isCalm v:=by
 cases v with
 | ptr l i o=>by_cases h:l=l1<;>simp [reloc,isCalm,h]
 | bsl l i o n m e=>by_cases h:l=l1<;>simp [reloc,isCalm,h]
 | _=>simp [reloc,isCalm]
theorem reloc_slice {l1 l2 b:Nat} {v:V} {k:SK} {xs:List (List V)} (h:reloc l1 l2 b v=.slice k xs):v=.slice k xs:=by
 cases v<;>simp [reloc] at h ⊢<;>try (split at h<;>cases h; done)
 exact h
mutual
theorem rel_reloc {g1 g':Gh} {l2 base:Nat} (hG:∀ b o v,g1.G b o=some v→g'.G b o=some v) (hb:∀ i p,g1.al 0 i=some p→g'.bx l2 (base+i)=g1.bx 0 i∧g'.al l2 (base+i)=some p) :
  ∀ (v:V) (x:Value),bare v=true→Rel g1 1 v x→Rel g' (l2+1) (reloc 0 l2 base v) x
 | .undef,_,h,_=>by simp [bare] at h
 | .bool _,_,_,r=>by simpa [reloc,Rel] using r
 | .int _ _,_,_,r=>by simpa [reloc,Rel] using r
 | .str _,_,_,r=>by simpa [reloc,Rel] using r
 | .ptr l i o,x,_,r=>by
  simp only [Rel] at r
  obtain ⟨hl,⟨p,hu⟩,hx⟩:=r
  have hl0:l=0:=by omega
  subst hl0
  obtain ⟨h1,h2⟩:=hb i p hu
  simp only [reloc,if_true,Rel]
  exact ⟨by omega,⟨p,h2⟩,by rw [h1]; exact hx⟩
 | .nilp,_,_,r=>by simpa [reloc,Rel] using r
 | .look cs,x,_,r=>by
  simp only [reloc,Rel] at r ⊢
  obtain ⟨b,o,hx,hc⟩:=r
  exact ⟨b,o,hx,atG_mono ⟨hG,fun _ _ _ h=>absurd h (Nat.not_lt_zero _),fun _ h=>absurd h (Nat.not_lt_zero _)⟩ b o cs hc⟩
 | .slice k xs,x,_,r=>by
  simp only [reloc,Rel] at r ⊢
  obtain ⟨a,n',c,hx,hn,hc,hun,hr,hs,hk⟩:=r
  exact ⟨a,n',c,hx,hn,hc,hun,rowsG_mono ⟨hG,fun _ _ _ h=>absurd h (Nat.not_lt_zero _),fun _ h=>absurd h (Nat.not_lt_zero _)⟩ a xs hr,hs,hk⟩
 | .func f cs,x,h,r=>by
  simp only [bare,Bool.and_eq_true] at h
  simp only [reloc,Rel] at r ⊢
  obtain ⟨f',cs',hx,hc,hf⟩:=r
  refine ⟨f',cs',hx,relL_reloc hG hb cs cs' h.2 hc,?_⟩
  cases f with
  | func k=>exact hf
  | yield l=>simp at h
  | _=>exact hf
 | .nilf,_,_,r=>by simpa [reloc,Rel] using r
 | .ifc t v,x,h,r=>by
  simp only [bare] at h
  simp only [reloc,Rel] at r ⊢
  obtain ⟨y,hx,hy⟩:=r
  exact ⟨y,hx,rel_reloc hG hb v y h hy⟩
 | .nili,_,_,r=>by simpa [reloc,Rel] using r
 | .agg cs,x,h,r=>by
  simp only [bare] at h
  simp only [reloc,Rel] at r ⊢
  obtain ⟨vs,hx,hi,hv⟩:=r
  exact ⟨vs,hx,by rw [isCells_reloc]; exact hi,relL_reloc hG hb cs vs h hv⟩
 | .tup cs,x,h,r=>by
  simp only [bare] at h
  simp only [reloc,Rel] at r ⊢
  obtain ⟨vs,hx,hv⟩:=r
  exact ⟨vs,hx,relL_reloc hG hb cs vs h hv⟩
 | .fresh cs,x,h,_=>by simp [bare] at h
 | .mir l i o e xs,x,h,_=>by simp [bare] at h
 | .bsl l i o n m e,x,_,r=>by
  simp only [Rel] at r
  obtain ⟨hl,c,hu,hn,hc,hx⟩:=r
  have hl0:l=0:=by omega
  subst hl0
  obtain ⟨h1,h2⟩:=hb i _ hu
  simp only [reloc,if_true,Rel]
  exact ⟨by omega,c,h2,hn,hc,by rw [h1]; exact hx⟩
theorem relL_reloc {g1 g':Gh} {l2 base:Nat} (hG:∀ b o v,g1.G b o=some v→g'.G b o=some v) (hb:∀ i p,g1.al 0 i=some p→g'.bx l2 (base+i)=g1.bx 0 i∧g'.al l2 (base+i)=some p) :
  ∀ (vs:List V) (xs:List Value),bareL vs=true→RelL g1 1 vs xs→RelL g' (l2+1) (relocL 0 l2 base vs) xs
 | [],_,_,r=>by simpa [relocL,RelL] using r
 | c::cs,xs,h,r=>by
  simp only [bareL,Bool.and_eq_true] at h
  simp only [RelL,relocL] at r ⊢
  obtain ⟨u,us,hx,hc,hs⟩:=r
  exact ⟨u,us,hx,rel_reloc hG hb c u h.1 hc,relL_reloc hG hb cs us h.2 hs⟩
end
theorem barest_get:∀ {L:List (List V)} {i:Nat} {cs:List V},barest L=true→L[i]?=some cs→dz (some cs)=some cs→bareL cs=true
 | [],_,_,_,h,_=>by simp at h
 | c::L,0,cs,h,hi,hd=>by
  simp only [barest,Bool.and_eq_true,Bool.or_eq_true] at h
  simp at hi; subst hi
  rcases h.1 with h1 | h1
  ·exact h1
  ·rw [hd] at h1; cases h1
 | c::L,i+1,cs,h,hi,hd=>by
  simp only [barest,Bool.and_eq_true] at h
  exact barest_get h.2 (by simpa using hi) hd
theorem step_esc (I:Inv P T g w) (hF:FrRel P T g w nt F a.tmps) (ht:∀ t,tame (F t)=true) {bs:List (List V)} {R:St} (hT:T=⟨bs,none⟩::R) {d:Option Nat} (hd:inNt nt d=true) {g1:Gh} {w1:World} {L:List (List V)} (hfrm:Frm g.clear w g1 w1) (I1:Inv P [⟨L,none⟩] g1 w1)
  {v:V} {x:Value} (hr:Rel g1 1 v x) (hc:isCalm v=true) (hb1:bare v=true) (hb2:barest L=true) :
  ∃ g',StepTo P T g w a nt (⟨bs++L.map (relocL 0 R.length bs.length),none⟩::R) (putO F d (reloc 0 R.length bs.length v)) g' w1 (a.put d x):=by
 subst hT
 let g':=g.embed g1 w.heap.size R.length bs.length L.length
 have hnew:∀ b,g1.use b≠.free→w.heap.size≤b:=fun b h=>Nat.le_of_not_lt fun hlt=>h (hfrm.old b hlt rfl).2.1
 have hlt0:∀ i p,g1.al 0 i=some p→i < L.length:=fun i p h=>Nat.lt_of_not_le fun hle=>by
  rw [I1.N 0 i (by simp) (by simpa [lenAt] using hle)] at h; cases h
 have hle:Le (⟨bs,none⟩::R:St).length g g':=by
  refine ⟨fun b o v h=>?_,fun l i p hl h=>?_,fun l _ h=>⟨rfl,?_⟩⟩
  ·exact ((hfrm.old b (G_lt I h) rfl).2.2 o).trans h
  ·have h1:¬ (l=R.length∧bs.length≤i∧i < bs.length+L.length):=by
    rintro ⟨rfl,h2,_⟩
    rw [I.N R.length i (by simp) (by rw [lenAt_top]; exact h2)] at h; cases h
   simp only [g',Gh.embed,h1,if_false]
   exact ⟨trivial,h⟩
  ·simp only [g',Gh.embed]; rw [if_pos (use_lt I (by rw [h]; simp))]; exact h
 have hG1:∀ b o v,g1.G b o=some v→g'.G b o=some v:=fun _ _ _ h=>h
 have hbx:∀ i p,g1.al 0 i=some p→g'.bx R.length (bs.length+i)=g1.bx 0 i∧g'.al R.length (bs.length+i)=some p:=fun i p h=>by
  have h1:=hlt0 i p h
  have h2:bs.length+i - bs.length=i:=by omega
  refine ⟨?_,?_⟩
  ·simp only [g',Gh.embed]
   rw [if_pos ⟨trivial,by omega,by omega⟩,h2]
  ·simp only [g',Gh.embed]
   rw [if_pos ⟨trivial,by omega,by omega⟩,h2]
   exact h
 have hsame:Same (fun _=>False) g w g' w1:=⟨hfrm.os,hfrm.tape,hfrm.output,hfrm.size,fun b hb _=>⟨(hfrm.old b hb rfl).1,by simp [g',Gh.embed,hb],fun o=>(hfrm.old b hb rfl).2.2 o⟩⟩
 have hinv:Inv P (⟨bs++L.map (relocL 0 R.length bs.length),none⟩::R) g' w1:=by
  refine I.step hsame hle (fun b o v hv hc=>?_) (fun b hb=>?_) (fun l i cs hc=>?_) (fun l p hp=>?_) (fun l i hl hn=>?_)
  ·have hb:w.heap.size≤b:=hc.elim (fun h=>h.1.elim) id
   obtain ⟨h1,h2⟩:=I1.G b o v hv
   refine ⟨h1,?_⟩
   simp only [g',Gh.embed]
   rw [if_neg (by omega)]
   unfold embU
   rcases h2 with h2 | ⟨c,h2⟩<;>rw [h2]
   ·exact .inl rfl
   ·cases c with
    | tmp _=>exact .inl rfl
    | res=>exact .inl rfl
    | cell l i j =>
     simp only
     split
     ·exact .inr ⟨_,rfl⟩
     ·exact .inl rfl
  ·have:=hfrm.size
   simp only [g',Gh.embed]
   rw [if_neg (by omega)]
   unfold embU
   rw [I1.U b hb]
  ·by_cases hl:l=R.length
   ·subst hl
    simp only [getBox,if_true] at hc
    rcases Nat.lt_or_ge i bs.length with hi | hi
    ·rw [List.getElem?_append_left hi] at hc
     exact .inl ⟨by rw [getBox_top]; exact hc,fun h=>h,fun _ h=>h⟩
    ·right
     have hc0':=dz_some hc
     rw [List.getElem?_append_right hi,List.getElem?_map,Option.map_eq_some_iff] at hc0'
     obtain ⟨c0,hc0,hc1⟩:=hc0'
     have hnd:dz (some c0)=some c0:=by
      rcases dz_cases (some c0) with h | h
      ·exfalso
       have h0:=dead_of_dz h
       subst h0
       subst hc1
       rw [List.getElem?_append_right hi,List.getElem?_map,hc0] at hc
       cases hc
      ·exact h
     subst hc1
     obtain ⟨hu,vs,e,ex,hh,hi',hr',ho,ha⟩:=I1.B 0 (i - bs.length) c0 (by simp [getBox,hc0,hnd])
     obtain ⟨e1,e2⟩:=hbx (i - bs.length) _ ha
     have hii:bs.length+(i - bs.length)=i:=by omega
     rw [hii] at e1 e2
     refine ⟨by
      rw [e1]
      simp only [g',Gh.embed]
      rw [if_neg (by have:=hnew (g1.bx 0 (i - bs.length)) (by rw [hu]; simp); omega)]
      simp only [embU,hu]
      rw [if_pos ⟨trivial,(List.getElem?_eq_some_iff.1 hc0).1,trivial⟩,hii],vs,e,ex,by rw [e1]; exact hh,by rw [isCells_reloc]; exact hi',relL_reloc hG1 hbx c0 vs (barest_get hb2 hc0 hnd) hr',fun j e' xs y hj hy=>?_,e2⟩
     rw [relocL_get,Option.map_eq_some_iff] at hj
     obtain ⟨v0,hv0,hv1⟩:=hj
     have:=reloc_slice hv1
     subst this
     obtain ⟨n,cs',h1,h2,h3,h4,h5⟩:=ho j e' xs y hv0 hy
     refine ⟨n,cs',h1,h2,h3,h4,fun b hb=>⟨?_,(h5 b hb).2⟩⟩
     have h6:=(h5 b hb).1
     simp only [g',Gh.embed]
     rw [if_neg (by have:=hnew b (by rw [h6]; simp); omega)]
     simp [embU,h6,hii]
   ·simp only [getBox,hl,if_false] at hc
    exact .inl ⟨by simp only [getBox,hl,if_false]; exact hc,fun h=>h,fun _ h=>h⟩
  ·have hp':getLp (⟨bs,none⟩::R) l=some p:=by simpa [getLp] using hp
   exact .inl ⟨hp',fun h=>h,Flat.lp (T:=⟨bs,none⟩::R) trivial hp'⟩
  ·by_cases hlr:l=R.length
   ·subst hlr
    rw [lenAt_top] at hn
    simp at hn
    have hrange:¬ (bs.length≤i∧i < bs.length+L.length):=by omega
    simp only [g',Gh.embed,true_and,hrange,if_false]
    exact I.N _ i (by simp) (by rw [lenAt_top]; simp; omega)
   ·rw [lenAt_below hlr] at hn
    simp only [g',Gh.embed,hlr,false_and,if_false]
    exact I.N l i (by simpa using hl) (by rw [lenAt_below hlr]; exact hn)
 refine ⟨g',hle,hsame.frm (fun h=>h),hinv,?_,rfl,trivial,put_defs _ _ _,fun b hb hu=>?_⟩
 ·refine FrRel.put hF.size hF.past hd (fun t y _ hy=>(hF.tmp t y hy).same I hsame hle rfl (fun h=>h) (.inl (not_mir (ht t)))) (fun t hdt=>TmpAt.calm (by rw [isCalm_reloc]; exact hc) (rel_reloc hG1 hbx v x hb1 hr))
 ·obtain ⟨h1,h2,_⟩:=hsame.old b hb (fun h=>h)
  exact ⟨h2.trans hu,h1⟩
end
end AM
end Go.Proofs.Ytimfbnojmdnlnaa
end
section
namespace Go.Proofs.Ytimfbnojmdnlnaa
namespace AM
mutual
theorem low_mono {n m:Nat} (h:n≤m):∀ {v:V},low n v=true→low m v=true
 | .undef,k=>by simp [low] at k
 | .bool _,_=>rfl
 | .int _ _,_=>rfl
 | .str _,_=>rfl
 | .ptr _ _ _,k=>by simp [low] at k ⊢; omega
 | .nilp,_=>rfl
 | .look _,_=>rfl
 | .slice _ _,_=>rfl
 | .func f cs,k=>by
  simp only [low,Bool.and_eq_true] at k ⊢
  refine ⟨?_,lowL_mono h k.2⟩
  have k1:=k.1
  cases f with
  | func _=>rfl
  | yield l=>simp at k1 ⊢; omega
  | _=>simp at k1
 | .nilf,_=>rfl
 | .ifc _ v,k=>by simp only [low] at k ⊢; exact low_mono h k
 | .nili,_=>rfl
 | .agg cs,k=>by simp only [low] at k ⊢; exact lowL_mono h k
 | .tup cs,k=>by simp only [low] at k ⊢; exact lowL_mono h k
 | .fresh _,k=>by simp [low] at k
 | .mir _ _ _ _ _,k=>by simp [low] at k
 | .bsl _ _ _ _ _ _,k=>by simp [low] at k ⊢; omega
theorem lowL_mono {n m:Nat} (h:n≤m):∀ {vs:List V},lowL n vs=true→lowL m vs=true
 | [],_=>rfl
 | v::vs,k=>by
  simp only [lowL,Bool.and_eq_true] at k ⊢
  exact ⟨low_mono h k.1,lowL_mono h k.2⟩
end
theorem lowL_iff {n:Nat}:∀ {vs:List V},lowL n vs=true ↔ ∀ v∈vs,low n v=true
 | []=>by simp [lowL]
 | v::vs=>by simp [lowL,lowL_iff (vs:=vs)]
theorem chunk_get {m n:Nat} {cs:List V} {j:Nat}:(chunk m n cs)[j]?=if j < n then some ((cs.drop (j*m)).take m) else none:=by
 unfold chunk
 rw [List.getElem?_map]
 by_cases h:j < n
 ·rw [List.getElem?_range h]; simp [h]
 ·rw [List.getElem?_eq_none (by simp; omega)]; simp [h]
theorem chunk_length {m n:Nat} {cs:List V}:(chunk m n cs).length=n:=by simp [chunk]
theorem chunk_len {m n:Nat} {cs:List V} (h:cs.length=n*m):∀ r∈chunk m n cs,r.length=m:=by
 intro r hr
 obtain ⟨j,hj,rfl⟩:=List.getElem_of_mem hr
 have hj':j < n:=by rw [chunk_length] at hj; exact hj
 have:=chunk_get (m:=m) (n:=n) (cs:=cs) (j:=j)
 rw [List.getElem?_eq_getElem hj,if_pos hj'] at this
 injection this with this
 rw [this]
 have h1:(j+1)*m≤n*m:=Nat.mul_le_mul_right _ hj'
 rw [Nat.succ_mul] at h1
 simp
 omega
theorem chunk_succ {m n:Nat} {cs:List V}:chunk m (n+1) cs=cs.take m::chunk m n (cs.drop m):=by
 unfold chunk
 rw [List.range_succ_eq_map]
 simp only [List.map_cons,Nat.zero_mul,List.drop_zero,List.map_map,List.cons.injEq,true_and]
 apply List.map_congr_left
 intro j hj
 simp only [Function.comp,List.drop_drop]
 rw [Nat.succ_mul,Nat.add_comm m]
theorem chunk_flatten {m:Nat}:∀ {n:Nat} {cs:List V},cs.length=n*m→(chunk m n cs).flatten=cs
 | 0,cs,h=>by
  have:cs=[]:=List.eq_nil_of_length_eq_zero (by omega)
  subst this; rfl
 | n+1,cs,h=>by
  rw [chunk_succ,List.flatten_cons,chunk_flatten (by rw [List.length_drop,h,Nat.succ_mul]; omega),List.take_append_drop]
theorem mapM_some {α β:Type} {f:α→Option β}:∀ {xs:List α} {ys:List β},xs.mapM f=some ys→ys.length=xs.length∧∀ (j:Nat) (y:β),ys[j]?=some y→∃ x,xs[j]?=some x∧f x=some y
 | [],ys,h=>by simp at h; subst h; simp
 | x::xs,ys,h=>by
  simp only [List.mapM_cons,Option.pure_def,Option.bind_eq_bind,Option.bind_eq_some_iff] at h
  obtain ⟨y,hy,ys',hys,h⟩:=h
  simp at h
  subst h
  obtain ⟨hl,hj⟩:=mapM_some hys
  refine ⟨by simp [hl],fun j u hu=>?_⟩
  cases j with
  | zero=>simp at hu; subst hu; exact ⟨x,rfl,hy⟩
  | succ j=>simpa using hj j u (by simpa using hu)
section
variable {P:Program} {T:St} {g:Gh} {w:World} {nt:Nat} {F:Fr} {a:Act} {tk:Option Nat→Bool} {o:Oper} {cE:CE}
def Gh.melt (g:Gh) (w:World) (lo:Nat):Gh :=
 ⟨fun b o=>match g.use b with | .box l _=>if lo≤l then w.cell? ⟨b,o,none⟩ else g.G b o | _=>g.G b o,g.bx,g.lp,
  fun b=>match g.use b with | .box l i=>if lo≤l then .free else .box l i | u=>u,fun l i=>if l < lo then g.al l i else none⟩
theorem melt_G (I:Inv P T g w) {lo b o:Nat} {v:Value} (h:g.G b o=some v):(g.melt w lo).G b o=some v:=by
 simp only [Gh.melt]
 split
 ·split
  ·exact (I.G b o v h).1
  ·exact h
 ·exact h
theorem le_melt (I:Inv P T g w) (lo:Nat):Le lo g (g.melt w lo):={
 G b o v h:=melt_G I h
 bx l i p hl h:=⟨rfl,by simp only [Gh.melt]; rw [if_pos hl]; exact h⟩
 lp l hl h:=⟨rfl,by simp only [Gh.melt]; rw [h]⟩ }
def upU (lo:Nat) (u:Use):Prop:=∃ l i,u=.box l i∧lo≤l
theorem melt_same (lo:Nat):Same (upU lo) g w (g.melt w lo) w :=
 ⟨rfl,rfl,rfl,Nat.le_refl _,fun b _ h=>⟨rfl,by
  simp only [Gh.melt]
  split
  ·rename_i l i e
   split
   ·exact absurd ⟨l,i,e, ‹_›⟩ h
   ·exact e.symm
  ·rfl,fun o=>by
  simp only [Gh.melt]
  split
  ·rename_i l i e
   split
   ·exact absurd ⟨l,i,e, ‹_›⟩ h
   ·rfl
  ·rfl⟩⟩
theorem inv_melt (I:Inv P T g w):Inv P T (g.melt w T.length) w:={
 K:=I.K.mono (le_melt I T.length)
 G b o v h:=by
  simp only [Gh.melt] at h ⊢
  split at h
  ·rename_i l i e
   split at h
   ·rw [if_pos ‹_›]; exact ⟨h, .inl rfl⟩
   ·have:=(I.G b o v h).2
    rw [e] at this; simp at this
  ·rename_i hne
   obtain ⟨h1,h2⟩:=I.G b o v h
   refine ⟨h1,?_⟩
   rcases h2 with h2 | ⟨c,h2⟩<;>rw [h2]
   ·exact .inl rfl
   ·exact .inr ⟨c,rfl⟩
 U b hb:=by simp only [Gh.melt]; rw [I.U b hb]
 B l i cs hc:=by
  have hl:=getBox_lt hc
  exact (I.B l i cs hc).same I (melt_same _) ((le_melt I _).less hl) (by rintro ⟨l',i',h,h'⟩; injection h with h1 h2; omega) (by rintro j ⟨l',i',h,_⟩; cases h)
 L l p hp:=by
  have hl:=getLp_lt hp
  have hu:=(I.L l p hp).1
  exact (I.L l p hp).same (melt_same _) ((le_melt I _).less hl) ⟨rfl,by simp only [Gh.melt]; rw [hu]⟩ (by rintro ⟨l',i',h,_⟩; cases h)
 N l i hl hn:=by simp only [Gh.melt]; rw [if_pos hl]; exact I.N l i hl hn }
theorem isCell_frz {S:St} {lo:Nat}:∀ {k:Nat} {v v':V},frz S lo k v=some v'→isCell v=true→isCell v'=true
 | 0,_,_,h,_=>by simp [frz] at h
 | k+1,v,v',h,hc=>by
  simp only [frz] at h
  split at h
  ·split at h
   ·injection h with h; subst h; rfl
   ·split at h
    ·injection h with h; subst h; rfl
    ·simp only [Option.bind_eq_some_iff] at h
     obtain ⟨_,_,_,_,_,_,h⟩:=h
     split at h
     ·injection h with h; subst h; rfl
     ·cases h
  ·simp [isCell] at hc
  ·simp [isCell] at hc
  ·injection h with h; subst h; rw [isCell_strip]; exact hc
theorem inv_pop {L:Lev} {R:St} (I:Inv P (L::R) g w):Inv P R g w:={
 K:=I.K
 G:=I.G
 U:=I.U
 B l i cs h:=I.B l i cs (by have:=getBox_lt h; simp only [getBox]; rw [if_neg (by omega)]; exact h)
 L l p h:=I.L l p (by have:=getLp_lt h; simp only [getLp]; rw [if_neg (by omega)]; exact h)
 N l i hl hn:=I.N l i (by simp; omega) (by rw [lenAt_below (by omega)]; exact hn) }
theorem frz_ok (I:Inv P T g w) (lo:Nat):∀ {k:Nat} {v v':V} {x:Value},frz T lo k v=some v'→low lo v'=true→Rel g T.length v x→Rel (g.melt w lo) lo v' x
 | 0,_,_,_,h,_,_=>by simp [frz] at h
 | k+1,v,v',x,h,hlow,r=>by
  have list:∀ {cs cs':List V} {xs:List Value},cs.mapM (frz T lo k)=some cs'→lowL lo cs'=true→RelL g T.length cs xs→RelL (g.melt w lo) lo cs' xs:=by
   intro cs cs' xs hm hl hr
   obtain ⟨h1,h2⟩:=mapM_some hm
   refine relL_iff.2 ⟨by rw [h1]; exact relL_length hr,fun j u y hu hy=>?_⟩
   obtain ⟨c,hc,hcu⟩:=h2 j u hu
   exact frz_ok I lo hcu (lowL_iff.1 hl u (List.mem_of_getElem? hu)) ((relL_iff.1 hr).2 j c y hc hy)
  simp only [frz] at h
  split at h
  ·rename_i l i o' n m e
   split at h
   ·injection h with h; subst h
    exact rel_mono (le_melt I lo) (Nat.le_refl _) _ _ (rel_low _ _ hlow r)
   ·rename_i hlo
    simp only [Rel] at r
    obtain ⟨hl,c,ha,hn,hcm,hx⟩:=r
    split at h
    ·rename_i hn0
     injection h with h; subst h
     subst hn0
     simp only [Rel]
     exact ⟨_,_,_,hx,rfl,hn,⟨0,by simp⟩,by simp [RowsG],by simp,by simp⟩
    ·simp only [Option.bind_eq_some_iff] at h
     obtain ⟨cs,hcs,c0,hc0,c',hc',h⟩:=h
     split at h<;>try (cases h; done)
     rename_i hm
     injection h with h; subst h
     obtain ⟨hu,vs,ty,ex,hh,hi,hr,_,_⟩:=I.B l i cs hcs
     have hcut:o'+n*m≤cs.length∧c0=(cs.drop o').take (n*m):=by
      unfold cutL at hc0
      split at hc0
      ·injection hc0 with hc0; exact ⟨‹_›,hc0.symm⟩
      ·cases hc0
     obtain ⟨h1,rfl⟩:=hcut
     have hr1:RelL g T.length ((cs.drop o').take (n*m)) ((vs.drop o').take (n*m)):=relL_mono (Le.refl _ _) (getBox_lt hcs) _ _ (relL_take _ (relL_drop _ hr))
     have hr2:=relL_low _ _ hm.2 (list hc' (lowL_mono (Nat.zero_le _) hm.2) hr1)
     have hlen:c'.length=n*m:=by rw [(mapM_some hc').1]; simp; omega
     have hfl:=chunk_flatten hlen
     have hic:isCells c'=true:=isCells_iff.2 fun u hu=>by
      obtain ⟨j,hj,rfl⟩:=List.getElem_of_mem hu
      obtain ⟨c1,k1,k2⟩:=(mapM_some hc').2 j _ (List.getElem?_eq_getElem hj)
      exact isCell_frz k2 (isCells_iff.1 hi _ (List.mem_of_mem_drop (List.mem_of_mem_take (List.mem_of_getElem? k1))))
     simp only [Rel]
     refine ⟨_,_,_,hx,chunk_length.symm,hn,⟨m,chunk_len hlen⟩,?_,fun _ ad had=>by cases had; rfl,by simp⟩
     refine relL_flat (vs:=(vs.drop o').take (n*m)) (by rw [hfl]; exact hr2) (by rw [hfl]; exact hic) fun j u hu'=>?_
     simp only [Gh.melt,hu]
     rw [if_pos (by omega)]
     rw [List.getElem?_take] at hu'
     split at hu'
     ·rw [List.getElem?_drop] at hu'
      exact cell_box hh hu'
     ·cases hu'
  ·rename_i cs
   obtain ⟨cs',hcs',rfl⟩:=Option.map_eq_some_iff.1 h
   simp only [Rel] at r ⊢
   obtain ⟨vs,hx,hi,hr⟩:=r
   refine ⟨vs,hx,isCells_iff.2 fun u hu=>?_,list hcs' (by simpa only [low] using hlow) hr⟩
   obtain ⟨j,hj,rfl⟩:=List.getElem_of_mem hu
   obtain ⟨c1,k1,k2⟩:=(mapM_some hcs').2 j _ (List.getElem?_eq_getElem hj)
   exact isCell_frz k2 (isCells_iff.1 hi _ (List.mem_of_getElem? k1))
  ·rename_i cs
   obtain ⟨cs',hcs',rfl⟩:=Option.map_eq_some_iff.1 h
   simp only [Rel] at r ⊢
   obtain ⟨vs,hx,hr⟩:=r
   exact ⟨vs,hx,list hcs' (by simpa only [low] using hlow) hr⟩
  ·injection h with h; subst h
   exact rel_mono (le_melt I lo) (Nat.le_refl _) _ _ (rel_low _ _ hlow (rel_strip r))
theorem calm_frz {S:St} {lo:Nat}:∀ {k:Nat} {v v':V},frz S lo k v=some v'→low lo v'=true→isCalm v'=true
 | 0,_,_,h,_=>by simp [frz] at h
 | k+1,v,v',h,hl=>by
  simp only [frz] at h
  split at h
  ·split at h
   ·injection h with h; subst h; rfl
   ·split at h
    ·injection h with h; subst h; rfl
    ·simp only [Option.bind_eq_some_iff] at h
     obtain ⟨_,_,_,_,_,_,h⟩:=h
     split at h
     ·injection h with h; subst h; rfl
     ·cases h
  ·obtain ⟨_,_,rfl⟩:=Option.map_eq_some_iff.1 h; rfl
  ·obtain ⟨_,_,rfl⟩:=Option.map_eq_some_iff.1 h; rfl
  ·injection h with h; subst h
   refine isCalm_of ?_ fun e xs=>strip_own
   cases hv:strip v<;>first | rfl | (rw [hv] at hl; simp [low] at hl)
end
end AM
end Go.Proofs.Ytimfbnojmdnlnaa
end
section
namespace Go.Proofs.Ytimfbnojmdnlnaa
namespace AM
section
variable {P:Program} {T:St} {g:Gh} {w:World} {nt:Nat} {F:Fr} {a:Act} {tk:Option Nat→Bool} {o:Oper} {cE:CE}
theorem step_push (I:Inv P T g w) (hF:FrRel P T g w nt F a.tmps) (ht:∀ t,tame (F t)=true) (hfl:Flat T) {d so:Option Nat} (hd:inNt nt d=true) {l:Nat} (hl:l < T.length) {b e n k c:Nat} {z:List V} {vs ex:List Value} {w':World}
  (hh:w'.heap[b]?=some (.cells ⟨vs++ex⟩ e (0,0))) (hG:∀ o v,g.G b o≠some v) (hu:g.use b=.free∧w.heap.size≤b∨OfTmp so (g.use b))
  (hi:isCells z=true) (hr:RelL g (l+1) z vs) (hz:∀ (j:Nat) e xs,z[j]?≠some (.slice (.own e) xs))
  (hos:w'.os=w.os) (htp:w'.tape=w.tape) (hout:w'.output=w.output) (hsz:w.heap.size≤w'.heap.size) (hold:∀ k,k < w.heap.size→k≠b→w'.heap[k]?=w.heap[k]?)
  (hc:(vs++ex).length=c*n) (hkc:k≤c) (hcm:c≤maxLen) (hs:∀ s,so=some s→isCalm (F s)=true) :
  ∃ g',StepTo P T g w a nt (addBox T l z) (putO F d (.bsl l (lenAt T l) 0 k n e)) g' w' (a.put d (.slice (some ⟨b,0,none⟩) k c)):=by
 obtain ⟨hle,hsame,hinv⟩:=inv_add I hfl hl hh hG hu hi hr hz hos htp hout hsz hold
 refine ⟨_,hle,hsame.frm ofTmp_free,hinv,?_,length_addBox _ _ _,hfl.addBox _ _,put_defs _ _ _,fun b hb hu=>?_⟩
 ·refine FrRel.put hF.size hF.past hd (fun t y _ hy=>?_) (fun t _=>TmpAt.calm rfl ?_)
  ·by_cases hts:so=some t
   ·refine TmpAt.calm (hs t hts) ?_
    rw [length_addBox]
    exact rel_mono hle (Nat.le_refl _) _ _ (hF.tmp t y hy).rel
   ·exact (hF.tmp t y hy).same I hsame hle (length_addBox _ _ _) (by rintro ⟨s,h1,h2⟩; cases h2; exact hts h1) (.inl (not_mir (ht t)))
  ·simp only [Rel]
   refine ⟨by rw [length_addBox]; exact hl,c,?_,hkc,hcm,by simp [Gh.boxed]⟩
   simp [Gh.boxed,hc]
 ·obtain ⟨h1,h2,_⟩:=hsame.old b hb (by rw [hu]; exact ofTmp_mark)
  exact ⟨h2.trans hu,h1⟩
theorem noOwn_at {z:List V} (h:noOwn z=true):∀ (j:Nat) e xs,z[j]?≠some (.slice (.own e) xs):=fun j e xs hj=>by
 have:=List.all_eq_true.1 h _ (List.mem_of_getElem? hj)
 simp at this
theorem madeCells_get (z:Array Value) (k j:Nat):(madeCells z k).toList[j]?=if j < k then some z[j % z.size]! else none:=by
 simp only [madeCells,Array.toList_map,Array.toList_range,List.getElem?_map]
 by_cases h:j < k
 ·rw [List.getElem?_range h,if_pos h]; rfl
 ·rw [List.getElem?_eq_none (by simp; omega),if_neg h]; rfl
theorem flat_rep_get {z:List V} {j:Nat}:∀ {k:Nat},(List.replicate k z).flatten[j]?=if j < k*z.length then z[j % z.length]? else none
 | 0=>by simp
 | k+1=>by
  rw [List.replicate_succ,List.flatten_cons]
  rcases Nat.lt_or_ge j z.length with h | h
  ·rw [List.getElem?_append_left h,Nat.mod_eq_of_lt h,if_pos (by rw [Nat.succ_mul]; omega)]
  ·rw [List.getElem?_append_right h,flat_rep_get (k:=k), ← Nat.mod_eq_sub_mod h]
   have:(j - z.length < k*z.length) ↔ (j < (k+1)*z.length):=by rw [Nat.succ_mul]; omega
   simp only [this]
theorem relL_made {d:Nat} {z:List V} {zs:Array Value} (h:RelL g d z zs.toList) (k:Nat):RelL g d (List.replicate k z).flatten (madeCells zs (k*zs.size)).toList:=by
 have hl:z.length=zs.size:=by simpa using relL_length h
 refine relL_iff.2 ⟨by simp [madeCells,hl],fun j v x hv hx=>?_⟩
 rw [flat_rep_get] at hv
 rw [madeCells_get] at hx
 split at hv<;>try (cases hv; done)
 rw [if_pos (by rw [← hl]; assumption)] at hx
 injection hx with hx
 refine (relL_iff.1 h).2 (j % z.length) v x hv ?_
 have hlt:j % z.length < zs.size:=by rw [← hl]; exact (List.getElem?_eq_some_iff.1 hv).1
 subst hx
 rw [← hl]
 rw [hl] at hlt ⊢
 simp [hlt,getElem!_def]
theorem isCells_rep {z:List V} (h:isCells z=true) (k:Nat):isCells (List.replicate k z).flatten=true:=isCells_iff.2 fun c hc=>by
 obtain ⟨l,h1,h2⟩:=List.mem_flatten.1 hc
 rw [List.eq_of_mem_replicate h1] at h2
 exact isCells_iff.1 h c h2
theorem step_mk (I:Inv P T g w) (hF:FrRel P T g w nt F a.tmps) (ht:∀ t,tame (F t)=true) (hfl:Flat T) {d:Option Nat} (hd:inNt nt d=true) {bs:List (List V)} {R:St} (hT:T=⟨bs,none⟩::R) {e n b:Nat} {z:List V} {X Y:Opd} {k:Int} {kx ky:IntKind}
  (hc:CompOf P tk o (.mk e n b z X Y)) (hX:evO F X=.int kx k) (hY:evO F Y=.int ky k) (h0:0≤k) (hb:b*k.toNat≤281474976710656) (hk:k≤281474976710656) :
  ∃ x w' g',(execOp a.eval o).run P w=.ok (.value x) w'∧StepTo P T g w a nt (⟨bs++[(List.replicate k.toNat z).flatten],none⟩::R) (putO F d (.bsl R.length bs.length 0 k.toNat n e)) g' w' (a.put d x):=by
 cases hc with
 | val _ h=>cases h
 | mk t _ x y _ _ i _ he hu hi hz hzl hxX hyY =>
  obtain ⟨it,zv,hit,hzv,hzr,hzi,hzo⟩:=rel_zeroOf (P:=P) (g:=g) (d:=R.length+1) hz
  rw [hi] at hit; injection hit with hit; subst hit
  have hzs:zv.cells.size=i.size:=by rw [← hzl,relL_length hzr]; simp
  have hrx:=rel_opd hF hxX
  rw [hX] at hrx
  have hry:=rel_opd hF hyY
  rw [hY] at hry
  simp only [Rel] at hrx hry
  have hkk:((k.toNat:Nat):Int)=k:=Int.toNat_of_nonneg h0
  obtain ⟨w',hrun,hown,hgr⟩:=run_make_full (P:=P) w 0 t e i zv i.size hu hi hzv rfl kx ky k.toNat hb (by simp only [maxLen]; omega) (Nat.zero_le _)
  rw [hkk] at hrun
  have hexec:(execOp a.eval o).run P w=.ok (.value (.slice (some ⟨w.heap.size,0,none⟩) k.toNat k.toNat)) w':=by
   simp only [execOp,he,hrx,hry,Sem.run_bind,hrun,Result.andThen_ok]
   rfl
  rcases hown.2 with ⟨h,_⟩ | ⟨b',cap,cur,h,_,hh,_,hcm,hcs,hcur⟩
  ·cases h
  ·simp only [Value.slice.injEq,Option.some.injEq,Addr.mk.injEq,and_true,true_and] at h
   obtain ⟨hb',hcap⟩:=h
   subst hb'
   subst hcap
   have hall:cur.toList=(madeCells zv.cells (k.toNat*i.size)).toList:=by
    rw [← hcur,List.take_of_length_le (by simp [hcs])]
   have hh':w'.heap[w.heap.size]?=some (.cells ⟨(madeCells zv.cells (k.toNat*zv.cells.size)).toList++[]⟩ e (0,0)):=by
    rw [hh,List.append_nil,hzs, ← hall]
   have hrl:=relL_made (g:=g) hzr k.toNat
   obtain ⟨g',hg'⟩:=step_push (so:=none) (c:=k.toNat) (k:=k.toNat) (n:=i.size) (z:=(List.replicate k.toNat z).flatten) (l:=R.length) I hF ht hfl hd (by rw [hT]; simp) hh' (fun o v h=>absurd h (G_new I)) (.inl ⟨I.U _ (Nat.le_refl _),Nat.le_refl _⟩)
    (isCells_rep hzi _) hrl (fun j e xs hj=>by
     obtain ⟨l,h1,h2⟩:=List.mem_flatten.1 (List.mem_of_getElem? hj)
     rw [List.eq_of_mem_replicate h1] at h2
     exact hzo _ h2 e xs rfl) hgr.os hgr.tape hgr.output hgr.size (fun q hq _=>hgr.block q hq (by simp)) (by simp [madeCells,hzs]) (Nat.le_refl _) hcm (by simp)
   subst hT
   rw [lenAt_top,addBox_top] at hg'
   exact ⟨_,_,g',hexec,hg'⟩
theorem rowsB_ok (hF:FrRel P T g w nt F a.tmps) {l n:Nat}:∀ {ps:List Operand} {Ps:List Opd} {cs:List V},ps.mapM opd=some Ps→rowsB F l n Ps=some cs →
  RelL g l cs ((ps.map a.eval).flatMap fun v=>v.cells.toList)∧isCells cs=true∧(∀ v∈ps.map a.eval,v.cells.size=n)∧cs.length=ps.length*n∧∀ (j:Nat) e xs,cs[j]?≠some (.slice (.own e) xs)
 | [],Ps,cs,h,hr=>by
  simp at h; subst h
  simp [rowsB] at hr; subst hr
  simp [RelL,isCells]
 | p::ps,Ps,cs,h,hr=>by
  simp only [List.mapM_cons,Option.pure_def,Option.bind_eq_bind,Option.bind_eq_some_iff] at h
  obtain ⟨X,hX,Xs,hXs,h⟩:=h
  simp at h; subst h
  simp only [rowsB] at hr
  split at hr
  ·rename_i vs hvs
   split at hr
   ·rename_i hc
    simp only [Option.map_eq_some_iff] at hr
    obtain ⟨ys,hys,rfl⟩:=hr
    obtain ⟨h1,h2,h3,h4,h5⟩:=rowsB_ok hF hXs hys
    obtain ⟨k1,k2⟩:=rel_cellsOf hvs (rel_strip (rel_opd hF hX))
    have k1':=relL_low _ _ hc.2 k1
    have hsz:(a.eval p).cells.size=n:=by
     have:=relL_length k1
     simp at this
     omega
    refine ⟨?_,?_,?_,?_,fun j e xs hj=>?_⟩
    ·simp only [List.map_cons,List.flatMap_cons]
     exact relL_append k1' h1
    ·exact isCells_iff.2 fun c hc=>(List.mem_append.1 hc).elim (isCells_iff.1 k2 c) (isCells_iff.1 h2 c)
    ·intro v hv
     simp only [List.map_cons] at hv
     rcases List.mem_cons.1 hv with rfl | hv
     ·exact hsz
     ·exact h3 v hv
    ·simp [h4,hc.1,Nat.succ_mul]; omega
    ·rcases Nat.lt_or_ge j vs.length with hj' | hj'
     ·rw [List.getElem?_append_left hj'] at hj
      exact strip_own (cellsOf_own hvs hj).2
     ·rw [List.getElem?_append_right hj'] at hj
      exact h5 _ e xs hj
   ·cases hr
  ·cases hr
theorem step_rowb (I:Inv P T g w) (hF:FrRel P T g w nt F a.tmps) (ht:∀ t,tame (F t)=true) (hfl:Flat T) {d:Option Nat} (hd:inNt nt d=true) {bs:List (List V)} {R:St} (hT:T=⟨bs,none⟩::R) {e n:Nat} {ps:List Opd} {cs:List V}
  (hc:CompOf P tk o (.row e n ps)) (h1:ps.length*n≤16777216) (h2:0 < n) (hpos:0 < ps.length) (hcs:rowsB F (R.length+1) n ps=some cs) :
  ∃ x w' g',(execOp a.eval o).run P w=.ok (.value x) w'∧StepTo P T g w a nt (⟨bs++[cs],none⟩::R) (putO F d (.bsl R.length bs.length 0 ps.length n e)) g' w' (a.put d x):=by
 cases hc with
 | val _ h=>cases h
 | row t _ len _ qs z _ he hu hps hn hz hqs =>
  have hqs':(qs.toList.map (·.2)).mapM opd=some ps:=by rw [List.mapM_map]; exact hqs
  obtain ⟨k1,k2,k5,k4,k6⟩:=rowsB_ok hF hqs' hcs
  obtain ⟨it,zv,hit,hzv,_,_,_⟩:=rel_zeroOf (P:=P) (g:=g) (d:=0) hz
  have hsize:it.size=n:=by
   unfold szOf at hn
   rw [hit] at hn
   simpa using hn
  have hlen:len=qs.toList.length:=by
   have:=congrArg List.length hps
   simpa using this.symm
  have hpl:ps.length=qs.toList.length:=by
   have:=(mapM_get hqs).1
   exact this
  have hparts:(qs.map fun (i,x)=>(i,a.eval x)).toList=(((qs.toList.map (·.2)).map a.eval).zipIdx 0).map fun x=>(x.2,x.1):=by
   apply List.ext_getElem?
   intro j
   simp only [Array.toList_map,List.getElem?_map,List.getElem?_zipIdx,Nat.zero_add]
   cases hj:qs.toList[j]? with
   | none=>simp
   | some q =>
    have:(qs.toList.map (·.1))[j]?=some q.1:=by simp [hj]
    rw [hps] at this
    have:q.1=j:=by
     rw [List.getElem?_range (by have:=(List.getElem?_eq_some_iff.1 hj).1; omega)] at this
     simpa using this.symm
    simp [this]
  have hfill:=Great.fill_whole (s:=n) h2 ((qs.toList.map (·.2)).map a.eval) ((Array.range (len*it.size)).map (zv.cells[· % zv.cells.size]!)) k5 (by simp [hlen,hsize])
  rw [← hparts] at hfill
  have hpos':0 < qs.toList.length:=by omega
  have hrun:(Instr.buildSlice t len (qs.map fun (i,x)=>(i,a.eval x))).run P w=.ok (.slice (some ⟨w.heap.size,0,none⟩) len len) (w.alloc (.cells (((qs.toList.map (·.2)).map a.eval).flatMap fun v=>v.cells.toList).toArray e)):=by
   have hbig:¬ len*it.size > 2 ^ 24:=by rw [hsize,hlen, ← hpl]; omega
   have hnz:¬ len*it.size=0:=by
    rw [hsize,hlen]
    have:=Nat.mul_pos hpos' h2
    omega
   have hr:=run_buildSlice (P:=P) w t e len (qs.map fun (i,x)=>(i,a.eval x)) _ it zv hu hit hzv hbig hnz (by rw [hsize]; rw [hsize] at hfill; exact hfill)
   exact hr
  have hexec:(execOp a.eval o).run P w=.ok (.value (.slice (some ⟨w.heap.size,0,none⟩) len len)) (w.alloc (.cells (((qs.toList.map (·.2)).map a.eval).flatMap fun v=>v.cells.toList).toArray e)):=by
   simp only [execOp,he,Sem.run_bind,hrun,Result.andThen_ok]
   rfl
  have hcl:=relL_length k1
  have hpsl:ps.length=len:=by rw [hlen]; exact hpl
  obtain ⟨g',hg'⟩:=step_push (so:=none) (b:=w.heap.size) (e:=e) (c:=len) (k:=len) (n:=n) (z:=cs) (l:=R.length) (ex:=[]) (vs:=((qs.toList.map (·.2)).map a.eval).flatMap fun v=>v.cells.toList) (w':=w.alloc (.cells (((qs.toList.map (·.2)).map a.eval).flatMap fun v=>v.cells.toList).toArray e)) I hF ht hfl hd (by rw [hT]; simp) (by rw [heap_alloc_new,List.append_nil]) (fun o v h=>absurd h (G_new I)) (.inl ⟨I.U _ (Nat.le_refl _),Nat.le_refl _⟩)
   k2 k1 k6 rfl rfl rfl (by simp) (fun q hq _=>heap_alloc_old w _ q hq) (by rw [List.append_nil, ← hcl,k4,hlen]; simp) (Nat.le_refl _) (by
    have h4:len*1≤len*n:=Nat.mul_le_mul_left _ h2
    have h5:len*n≤16777216:=by rw [hlen, ← hpl]; exact h1
    simp only [maxLen]
    omega) (by simp)
  subst hT
  rw [lenAt_top,addBox_top] at hg'
  rw [hpsl]
  exact ⟨_,_,g',hexec,hg'⟩
end
end AM
end Go.Proofs.Ytimfbnojmdnlnaa
end
section
namespace Go.Proofs.Ytimfbnojmdnlnaa
namespace AM
section
variable {P:Program} {T:St} {g:Gh} {w:World} {nt:Nat} {F:Fr} {a:Act} {tk:Option Nat→Bool} {o:Oper} {cE:CE}
theorem allLen_iff {n:Nat} {ys:List (List V)} (h:allLen n ys=true):∀ r∈ys,r.length=n:=fun r hr=>by simpa using List.all_eq_true.1 h r hr
theorem srcRows_ok (I:Inv P T g w) {n:Nat} {v:V} {x:Value} {ys:List (List V)} (r:Rel g T.length v x) (h:srcRows T n v=some ys) :
  ∃ ay cy news,x=.slice ay ys.length cy∧RelL g T.length ys.flatten news∧isCells ys.flatten=true∧(∀ r∈ys,r.length=n)∧(ay=none→ys=[])∧∀ ad,ay=some ad→∀ (j:Nat) (u:Value),news[j]?=some u→w.cell? (ad.add j)=some u:=by
 unfold srcRows at h
 split at h
 ·rename_i k ys0
  split at h<;>try (cases h; done)
  rename_i hall
  injection h with h; subst h
  simp only [Rel] at r
  obtain ⟨ay,ny,cy,hye,hny,hcy,_,hrowy,hspy,_⟩:=r
  obtain ⟨news,hn1,hn2,hn3⟩:=rowsG_vals hrowy
  refine ⟨ay,cy,news,by rw [hye,hny],relL_mono (Le.refl 0 g) (Nat.zero_le _) _ _ hn1,hn2,allLen_iff hall,fun h=>?_,fun ad had j u hj=>?_⟩
  ·subst h
   cases ys0 with
   | nil=>rfl
   | cons _ _=>simp [RowsG] at hrowy
  ·subst had
   by_cases hy0:ys0=[]
   ·subst hy0
    have:news=[]:=List.eq_nil_of_length_eq_zero (by have:=relL_length hn1; simpa using this.symm)
    subst this
    simp at hj
   ·obtain ⟨b,off,sp⟩:=ad
    have hsp:=hspy hy0 _ rfl
    simp only at hsp
    subst hsp
    rw [add_lit]
    exact (I.G _ _ _ (hn3 b off rfl j u hj)).1
 ·rename_i l i o' k m e
  split at h<;>try (cases h; done)
  rename_i hm
  obtain ⟨rfl,hn0⟩:=hm
  simp only [Option.bind_eq_some_iff,Option.map_eq_some_iff] at h
  obtain ⟨cs,hcs,c,hc,rfl⟩:=h
  obtain ⟨h1,rfl,h3⟩:=cutL_some hc
  simp only [Rel] at r
  obtain ⟨hl,c',ha,hn,hcm,hx⟩:=r
  obtain ⟨hu,vs,ty,ex,hh,hi,hr,_,_⟩:=I.B l i cs hcs
  have hlen:(((cs.drop o').take (k*m)).map strip).length=k*m:=by rw [List.length_map]; exact h3
  have hfl:=chunk_flatten hlen
  have hi':isCells (((cs.drop o').take (k*m)).map strip)=true:=by
   rw [isCells_strip]
   exact isCells_iff.2 fun y hy=>isCells_iff.1 hi y (List.mem_of_mem_drop (List.mem_of_mem_take hy))
  refine ⟨_,c',(vs.drop o').take (k*m),by rw [chunk_length]; exact hx,?_,by rw [hfl]; exact hi',chunk_len hlen,by simp,fun ad had j u hj=>?_⟩
  ·rw [hfl]
   exact relL_strip (relL_mono (Le.refl _ _) (getBox_lt hcs) _ _ (relL_take _ (relL_drop _ hr)))
  ·cases had
   rw [add_lit]
   rw [List.getElem?_take] at hj
   split at hj
   ·rw [List.getElem?_drop] at hj
    exact cell_box hh hj
   ·cases hj
 ·cases h
theorem step_appA (I:Inv P T g w) (hF:FrRel P T g w nt F a.tmps) (hfl:Flat T) {d:Option Nat} (hd:inNt nt d=true) {e n b:Nat} {X Y:Opd} {v:V}
  (hc:CompOf P tk o (.app e n b X Y)) (hv:appA F T e n b X Y=some v) :
  ∃ x w' g',(execOp a.eval o).run P w=.ok (.value x) w'∧StepTo P T g w a nt T (putO (unown F X) d v) g' w' (a.put d x):=by
 unfold appA at hv
 split at hv
 ·rename_i l i o' c m e' hYe
  unfold appB at hv
  rw [hYe] at hv
  split at hv<;>try (cases hv; done)
  rename_i k xs l2 i2 o2 c2 m2 e2 hXe hb
  rw [← hb] at hv
  simp only [Option.bind_eq_some_iff] at hv
  obtain ⟨ys,hys,hv⟩:=hv
  split at hv<;>try (cases hv; done)
  rename_i hcond
  obtain ⟨hgrow,hlow,hbytes,hlen⟩:=hcond
  injection hv with hv; subst hv
  have hly:∀ r∈ys,r.length=n:=by
   have hr:∀ r∈ys,r.length=n:=by
    unfold srcRows at hys
    simp only at hys
    split at hys<;>try (cases hys; done)
    rename_i hm
    obtain ⟨rfl,_⟩:=hm
    simp only [Option.bind_eq_some_iff,Option.map_eq_some_iff] at hys
    obtain ⟨cs,hcs,c,hc,rfl⟩:=hys
    obtain ⟨h1,rfl,h3⟩:=cutL_some hc
    exact chunk_len (by rw [List.length_map]; exact h3)
   exact hr
  refine step_app_core I hF hfl hd hc hXe hgrow hly hbytes hlen fun y hY=>?_
  have hry:=rel_opd hF hY
  rw [hYe] at hry
  obtain ⟨ay,cy,news,h1,h2,h3,_,h5,h6⟩:=srcRows_ok I hry hys
  exact ⟨ay,cy,news,h1,relL_low _ _ hlow h2,h3,h5,h6⟩
 ·exact step_app I hF hfl hd hc hv
theorem ownsRow_split {b e n k cap:Nat} {xs:List Value} (h:w.ownsRow 0 e n (.slice (some ⟨b,0,none⟩) k cap) k xs):∃ ex,w.heap[b]?=some (.cells ⟨xs++ex⟩ e (0,0))∧(xs++ex).length=cap*n∧k≤cap∧cap≤maxLen:=by
 rcases h.2 with ⟨h,_⟩ | ⟨b',cap',cur,h,_,hh,hk,hcm,hcs,hcur⟩
 ·cases h
 ·simp only [Value.slice.injEq,Option.some.injEq,Addr.mk.injEq,and_true,true_and] at h
  obtain ⟨hb',hcap⟩:=h
  subst hb'
  subst hcap
  have:xs++cur.toList.drop (k*n)=cur.toList:=by rw [← hcur]; exact List.take_append_drop _ _
  exact ⟨cur.toList.drop (k*n),by rw [hh,this],by rw [this]; simpa using hcs,hk,hcm⟩
theorem step_appr0 (I:Inv P T g w) (hF:FrRel P T g w nt F a.tmps) (ht:∀ t,tame (F t)=true) (hfl:Flat T) {d:Option Nat} (hd:inNt nt d=true) {e n b:Nat} {X Y:Opd} {k:SK} {ys:List (List V)} {l:Nat} (hl:l < T.length)
  (hc:CompOf P tk o (.app e n b X Y)) (hXe:evO F X=.slice k []) (hgrow:mayGrow k e 0=true) (hsrc:srcRows T n (evO F Y)=some ys) (hbytes:ys.length*b≤140737488355328) (hlen:ys.length≤140737488355328)
  (hnn:¬ (k=.nil∧ys=[])) (hlow:lowL (l+1) ys.flatten=true) (hno:noOwn ys.flatten=true) :
  ∃ x w' g',(execOp a.eval o).run P w=.ok (.value x) w'∧StepTo P T g w a nt (addBox T l ys.flatten) (putO (unown F X) d (.bsl l (lenAt T l) 0 ys.length n e)) g' w' (a.put d x):=by
 cases hc with
 | val _ h=>cases h
 | app x y _ _ t _ i z he hu hi hz h0 hb0 hzl hX hY =>
  obtain ⟨it,zv,hit,hzv,hzr,_,_⟩:=rel_zeroOf (P:=P) (g:=g) (d:=0) hz
  rw [hi] at hit; injection hit with hit; subst hit
  have hzs:zv.cells.size=i.size:=by rw [← hzl,relL_length hzr]; simp
  have hsz:szOf P e=some i.size:=by simp [szOf,hi]
  have hrx:=rel_opd hF hX
  rw [hXe] at hrx
  simp only [Rel] at hrx
  obtain ⟨ax,nx,cx,hxe,hnx,hcx,_,hrowx,hspx,hkx⟩:=hrx
  obtain ⟨ay,cy,news,hye,hn1,hn2,hly,hay,hn3⟩:=srcRows_ok I (rel_opd hF hY) hsrc
  have hnl:news.length=ys.length*i.size:=by rw [← relL_length hn1,length_flat hly]
  have hone:=oneCells_of_rel hn2 hn1
  simp only [List.length_nil] at hnx
  subst hnx
  obtain ⟨so,hown,hblk,hso⟩:∃ so,w.ownsRow 0 e i.size (a.eval x) 0 [] ∧
    (∀ b,(a.eval x).ownBlock=some b→OfTmp so (g.use b)∧∀ o v,g.G b o≠some v)∧(so=none∨∃ s,so=some s∧X=.t s):=by
   cases k with
   | nil =>
    obtain ⟨rfl,rfl⟩:=hkx
    refine ⟨none,?_,fun b hb=>?_, .inl rfl⟩
    ·rw [hxe]; exact World.ownsRow_nil w 0 e i.size
    ·rw [hxe] at hb; simp [Value.ownBlock] at hb
   | shut=>simp [mayGrow] at hgrow
   | own e' =>
    simp only [mayGrow,beq_iff_eq] at hgrow
    subst hgrow
    obtain ⟨s,rfl,rfl,hFs,hO⟩:=evO_own hF hX hXe
    obtain ⟨n',cs,h1,h2,h3,h4,h5⟩:=hO
    rw [hsz] at h1; injection h1 with h1; subst h1
    have hcs:cs=[]:=List.eq_nil_of_length_eq_zero (by simpa using h4.1)
    subst hcs
    exact ⟨some s,h4,fun b hb=>⟨⟨s,rfl,(h5 b hb).1⟩,fun o v hv=>absurd ((h5 b hb).2 o v hv) (by simp)⟩, .inr ⟨s,rfl,rfl⟩⟩
  let F1:Fr:=unown F X
  have hF1:FrRel P T g w nt F1 a.tmps:=by
   cases X with
   | t s=>exact hF.strip s
   | c _=>exact hF
  have hcalm:∀ s,so=some s→isCalm (F1 s)=true:=by
   intro s hs
   rcases hso with rfl | ⟨s',hs',rfl⟩
   ·cases hs
   ·rw [hs'] at hs; injection hs with hs; subst hs
    simp only [F1,unown,put_same]
    simp only [evO] at hXe
    exact isCalm_strip (by rw [hXe]; rfl)
  have hexec:∀ v' w',(Builtin.append_ #[t,t] o.type #[a.eval x,a.eval y]).run P w=.ok v' w'→(execOp a.eval o).run P w=.ok (.value v') w':=by
   intro v' w' hr
   simp only [execOp,he,resolve,invoke,builtin,Sem.run_bind,Sem.run_pure,Result.andThen_ok,List.map_toArray,List.map_cons,List.map_nil,hr]
  have hxnil:a.eval x=.slice none 0 0→k=.nil:=fun h=>by
   rw [hxe] at h
   simp only [Value.slice.injEq] at h
   cases k with
   | nil=>rfl
   | shut=>exact absurd h.1 hkx
   | own _=>exact absurd h.1 hkx
  obtain ⟨v',w',hr,ho',hg',hwhere⟩:∃ v' w',(Builtin.append_ #[t,t] o.type #[a.eval x,a.eval y]).run P w=.ok v' w'∧w'.ownsRow 0 e i.size v' (0+ys.length) ([]++news)∧w.grownBy w' (a.eval x).ownBlock ∧
    ((v'=.slice none 0 0∧(a.eval x=.slice none 0 0∧ys.length=0)∧w'=w)∨∃ b cap,v'=.slice (some ⟨b,0,none⟩) (0+ys.length) cap∧¬ (a.eval x=.slice none 0 0∧ys.length=0)∧((a.eval x).ownBlock=some b∨w.heap.size=b)∧∀ k,k < w.heap.size→k≠b→w'.heap[k]?=w.heap[k]?):=by
   cases ay with
   | none =>
    have hys:ys=[]:=hay rfl
    subst hys
    have hnews:news=[]:=List.eq_nil_of_length_eq_zero (by simpa using hnl)
    subst hnews
    refine ⟨a.eval x,w,?_,by simpa using hown,⟨rfl,rfl,rfl,Nat.le_refl _,fun _ _ _=>rfl⟩,?_⟩
    ·rw [hye]; exact run_append_nothing t o.type e i hu hi _ _ [] hown cy
    ·rcases hown.2 with ⟨hv,h0'⟩ | ⟨b,cap,cur,hv,_⟩
     ·exact .inl ⟨hv,⟨hv,rfl⟩,rfl⟩
     ·exact .inr ⟨b,cap,by simpa using hv,(by rw [hv]; simp), .inl (by rw [hv]; rfl),fun _ _ _=>rfl⟩
   | some ad =>
    rw [hye]
    exact run_append_all t o.type e i zv hu hi hzv hzs h0 (a.eval x) 0 [] hown ad ys.length cy news hnl (hn3 ad rfl) hone (by simp only [maxLen]; omega) (by rw [Nat.zero_add]; exact hbytes)
  rcases hwhere with ⟨rfl,⟨hxn,hy0⟩,hw⟩ | ⟨b,cap,rfl,hnn',hb,hkept⟩
  ·exact absurd ⟨hxnil hxn,List.eq_nil_of_length_eq_zero hy0⟩ hnn
  ·rw [Nat.zero_add,List.nil_append] at ho'
   rw [Nat.zero_add] at hr
   obtain ⟨ex,k1,k2,k3,k4⟩:=ownsRow_split ho'
   obtain ⟨g',hg''⟩:=step_push (so:=so) (c:=cap) (k:=ys.length) (n:=i.size) (z:=ys.flatten) I hF1 (tame_unown ht) hfl hd hl k1
    (fun oo u hu'=>by
     rcases hb with hb | hb
     ·exact (hblk b hb).2 oo u hu'
     ·subst hb; exact G_new I hu')
    (by
     rcases hb with hb | hb
     ·exact .inr (hblk b hb).1
     ·subst hb; exact .inl ⟨I.U _ (Nat.le_refl _),Nat.le_refl _⟩)
    hn2 (relL_low _ _ hlow hn1) (noOwn_at hno) hg'.os hg'.tape hg'.output hg'.size hkept k2 k3 k4 hcalm
   exact ⟨_,w',g',hexec _ _ hr,hg''⟩
theorem step_apprN (I:Inv P T g w) (hF:FrRel P T g w nt F a.tmps) (hfl:Flat T) {d:Option Nat} (hd:inNt nt d=true) {e n b:Nat} {X Y:Opd}
  (hc:CompOf P tk o (.app e n b X Y)) (hXe:evO F X=.slice .nil []) (hsrc:srcRows T n (evO F Y)=some []) :
  ∃ x,(execOp a.eval o).run P w=.ok (.value x) w∧StepTo P T g w a nt T (putO F d (.slice .nil [])) g w (a.put d x):=by
 cases hc with
 | val _ h=>cases h
 | app x y _ _ t _ i z he hu hi hz h0 hb0 hzl hX hY =>
  have hrx:=rel_opd hF hX
  rw [hXe] at hrx
  have hrx0:=hrx
  simp only [Rel] at hrx
  obtain ⟨ax,nx,cx,hxe,hnx,hcx,_,hrowx,hspx,rfl,rfl⟩:=hrx
  simp only [List.length_nil] at hnx
  subst hnx
  obtain ⟨ay,cy,news,hye,hn1,hn2,hly,hay,hn3⟩:=srcRows_ok I (rel_opd hF hY) hsrc
  have hr:(Builtin.append_ #[t,t] o.type #[.slice none 0 0, .slice ay 0 cy]).run P w=.ok (.slice none 0 0) w:=by
   cases ay<;>simp [Builtin.append_,run_underlying hu,sizeOf,typeInfo,hi,Builtin.lenOf,Builtin.firstCells,loadCells,loadCellsFrom]
  refine ⟨.slice none 0 0,?_,step_quiet I hF hfl hd fun t' _=>TmpAt.calm rfl (by rw [hxe] at hrx0; exact hrx0)⟩
  simp only [execOp,he,resolve,invoke,builtin,Sem.run_bind,Sem.run_pure,Result.andThen_ok,List.map_toArray,List.map_cons,List.map_nil,hxe,hye,List.length_nil,hr]
theorem step_apprB (I:Inv P T g w) (hF:FrRel P T g w nt F a.tmps) (ht:∀ t,tame (F t)=true) (hfl:Flat T) {d:Option Nat} (hd:inNt nt d=true) {e n b:Nat} {X Y:Opd} {ys:List (List V)} {l i0 c0:Nat} {cs old:List V}
  (hc:CompOf P tk o (.app e n b X Y)) (hXe:evO F X=.bsl l i0 0 c0 n e) (hcs:getBox T l i0=some cs) (hcut:cutL cs 0 (c0*n)=some old) (hsrc:srcRows T n (evO F Y)=some ys) (hbytes:(c0+ys.length)*b≤140737488355328) (hlen:c0+ys.length≤140737488355328)
  (hno1:noOwn old=true) (hlow:lowL (l+1) ys.flatten=true) (hno:noOwn ys.flatten=true) :
  ∃ x w' g',(execOp a.eval o).run P w=.ok (.value x) w'∧StepTo P T g w a nt (addBox (setBox T l i0 dead) l (old++ys.flatten)) (putO F d (.bsl l (lenAt T l) 0 (c0+ys.length) n e)) g' w' (a.put d x):=by
 cases hc with
 | val _ h=>cases h
 | app x y _ _ t _ i z he hu hi hz h0 hb0 hzl hX hY =>
  obtain ⟨it,zv,hit,hzv,hzr,_,_⟩:=rel_zeroOf (P:=P) (g:=g) (d:=0) hz
  rw [hi] at hit; injection hit with hit; subst hit
  have hzs:zv.cells.size=i.size:=by rw [← hzl,relL_length hzr]; simp
  have hrx:=rel_opd hF hX
  rw [hXe] at hrx
  simp only [Rel] at hrx
  obtain ⟨hl,c,ha,hc0,hcm,hxe⟩:=hrx
  obtain ⟨ay,cy,news,hye,hn1,hn2,hly,hay,hn3⟩:=srcRows_ok I (rel_opd hF hY) hsrc
  have hnl:news.length=ys.length*i.size:=by rw [← relL_length hn1,length_flat hly]
  have hone:=oneCells_of_rel hn2 hn1
  obtain ⟨hu0,vs,ty,ex,hh,hic,hr0,_,hal⟩:=I.B l i0 cs hcs
  rw [ha] at hal
  simp only [Option.some.injEq,Prod.mk.injEq,Nat.zero_add] at hal
  obtain ⟨rfl,hsize⟩:=hal
  obtain ⟨hcl,rfl,hol⟩:=cutL_some hcut
  simp only [List.drop_zero,Nat.zero_add] at hcl hol hno1 ⊢
  have hvl:=relL_length hr0
  have hold:RelL g (l+1) (cs.take (c0*i.size)) (vs.take (c0*i.size)):=relL_take _ hr0
  have hown:w.ownsRow 0 e i.size (a.eval x) c0 (vs.take (c0*i.size)):=by
   refine ⟨by rw [List.length_take]; omega, .inr ⟨g.bx l i0,c,⟨vs++ex⟩,hxe,Nat.zero_le _,hh,hc0,hcm,by simpa using hsize.symm,?_⟩⟩
   show (vs++ex).take (c0*i.size)=_
   rw [List.take_append_of_le_length (by omega)]
  have hob:(a.eval x).ownBlock=some (g.bx l i0):=by rw [hxe]; rfl
  have hexec:∀ v' w',(Builtin.append_ #[t,t] o.type #[a.eval x,a.eval y]).run P w=.ok v' w'→(execOp a.eval o).run P w=.ok (.value v') w':=by
   intro v' w' hr
   simp only [execOp,he,resolve,invoke,builtin,Sem.run_bind,Sem.run_pure,Result.andThen_ok,List.map_toArray,List.map_cons,List.map_nil,hr]
  obtain ⟨v',w',hr,ho',hg',b,cap,rfl,hb,hkept⟩:∃ v' w',(Builtin.append_ #[t,t] o.type #[a.eval x,a.eval y]).run P w=.ok v' w'∧w'.ownsRow 0 e i.size v' (c0+ys.length) (vs.take (c0*i.size)++news)∧w.grownBy w' (a.eval x).ownBlock ∧
    ∃ b cap,v'=.slice (some ⟨b,0,none⟩) (c0+ys.length) cap∧((a.eval x).ownBlock=some b∨w.heap.size=b)∧∀ k,k < w.heap.size→k≠b→w'.heap[k]?=w.heap[k]?:=by
   cases ay with
   | none =>
    have hys:ys=[]:=hay rfl
    subst hys
    have hnews:news=[]:=List.eq_nil_of_length_eq_zero (by simpa using hnl)
    subst hnews
    refine ⟨a.eval x,w,?_,by simpa using hown,⟨rfl,rfl,rfl,Nat.le_refl _,fun _ _ _=>rfl⟩,g.bx l i0,c,by simpa using hxe, .inl hob,fun _ _ _=>rfl⟩
    rw [hye]; exact run_append_nothing t o.type e i hu hi _ _ _ hown cy
   | some ad =>
    rw [hye]
    obtain ⟨v',w',q1,q2,q3,q4⟩:=run_append_all t o.type e i zv hu hi hzv hzs h0 (a.eval x) c0 _ hown ad ys.length cy news hnl (hn3 ad rfl) hone (by simp only [maxLen]; omega) hbytes
    rcases q4 with ⟨_,⟨h,_⟩,_⟩ | ⟨b,cap,h1,_,h2,h3⟩
    ·rw [hxe] at h; cases h
    ·exact ⟨v',w',q1,q2,q3,b,cap,h1,h2,h3⟩
  obtain ⟨ex',k1,k2,k3,k4⟩:=ownsRow_split ho'
  obtain ⟨kle,ksame,kinv⟩:=inv_kill I hfl hcs nt
  have hF1:FrRel P (setBox T l i0 dead) (g.kill (g.bx l i0) nt) w nt F a.tmps:=⟨hF.size,hF.past,fun t y hy=>(hF.tmp t y hy).same I ksame (kle _) (length_setBox _ _ _ _) (by simp) (.inl (not_mir (ht t)))⟩
  have hstep1:StepTo P T g w a nt (setBox T l i0 dead) F (g.kill (g.bx l i0) nt) w a :=
   ⟨kle _,ksame.frm (by simp),kinv,hF1,length_setBox _ _ _ _,hfl.setBox _ _ _,rfl,fun b hb hu=>by
    obtain ⟨q1,q2,_⟩:=ksame.old b hb (by rw [hu]; simp)
    exact ⟨q2.trans hu,q1⟩⟩
  have hGb:∀ b o v,g.use b=.box l i0→g.G b o≠some v:=fun b o v hub hv=>by
   have:=(I.G b o v hv).2
   rw [hub] at this
   simp at this
  obtain ⟨g',hg''⟩:=step_push (so:=some nt) (c:=cap) (k:=c0+ys.length) (n:=i.size) (z:=cs.take (c0*i.size)++ys.flatten) kinv hF1 ht (hfl.setBox l i0 dead) hd (l:=l) (by rw [length_setBox]; exact hl) k1
   (fun oo u hu'=>by
    rcases hb with hb | hb
    ·rw [hob] at hb; injection hb with hb; subst hb
     exact hGb _ oo u hu0 hu'
    ·subst hb; exact G_new I hu')
   (by
    rcases hb with hb | hb
    ·rw [hob] at hb; injection hb with hb; subst hb
     exact .inr ⟨nt,rfl,by simp [Gh.kill]⟩
    ·subst hb; exact .inl ⟨kinv.U _ (Nat.le_refl _),Nat.le_refl _⟩)
   (isCells_iff.2 fun u hu=>(List.mem_append.1 hu).elim (fun h=>isCells_iff.1 hic u (List.mem_of_mem_take h)) (isCells_iff.1 hn2 u))
   (relL_mono (kle _) (Nat.le_refl _) _ _ (relL_append hold (relL_low _ _ hlow hn1)))
   (fun j e' xs hj=>by
    rcases Nat.lt_or_ge j (cs.take (c0*i.size)).length with h | h
    ·rw [List.getElem?_append_left h] at hj; exact noOwn_at hno1 j e' xs hj
    ·rw [List.getElem?_append_right h] at hj; exact noOwn_at hno _ e' xs hj)
   hg'.os hg'.tape hg'.output hg'.size hkept k2 k3 k4 (fun s hs=>by injection hs with hs; subst hs; rw [hF.past nt (Nat.le_refl _)]; rfl)
  rw [lenAt_setBox] at hg''
  exact ⟨_,w',g',hexec _ _ hr,hstep1.trans hg''⟩
end
end AM
end Go.Proofs.Ytimfbnojmdnlnaa
end
section
namespace Go.Proofs.Ytimfbnojmdnlnaa
namespace AM
structure PanTo (P:Program) (T:St) (g:Gh) (w:World) (nt:Nat) (v:V) (F:Fr) (T':St) (g':Gh) (w':World) (x:Value) (a:Act):Prop where
 fr:FrRel P T' g' w' nt F a.tmps
 le:Le T.length g g'
 frm:Frm g w g' w'
 inv:Inv P T' g' w'
 len:T'.length=T.length
 marks:∀ b,b < w.heap.size→g.use b=.mark→g'.use b=.mark∧w'.heap[b]?=w.heap[b]?
 rel:Rel g' 0 v x
section
variable {P:Program} {T:St} {g:Gh} {w:World} {nt:Nat} {F:Fr} {a:Act} {tk:Option Nat→Bool} {o:Oper} {cE:CE} {K:Act→World→Prop} {Q:Exit→Act→World→Prop} {ro:Option Nat} {r:OR}
structure Goes (P:Program) (T:St) (g:Gh) (w:World) (nt:Nat) (F:Fr) (a:Act) (K:Act→World→Prop) (Q:Exit→Act→World→Prop) (r:OR):Prop where
 ok:∀ F' T',r=.ok F' T'→∀ g' w' a',StepTo P T g w a nt T' F' g' w' a'→(∀ t,tame (F' t)=true)→K a' w'
 pan:∀ v T',r=.pan v T'→∀ g' w' x,PanTo P T g w nt v F T' g' w' x a→Q (.panic [{ v:=x,recovered:=false }]) a w'
theorem wanted_ok (hF:FrRel P T g w nt F a.tmps) {ops:Array Oper} {gd:Option (Nat×Bool)} {b:Bool} (hg:compGd ops.toList o.guard=some gd) (hw:wanted F gd=some b):Region.wanted o (yielded ops a.tmps)=b:=by
 unfold Region.wanted
 cases ho:o.guard with
 | none =>
  rw [ho] at hg
  simp [compGd] at hg; subst hg
  simp [wanted] at hw
  simp [hw]
 | some jb =>
  obtain ⟨j,c⟩:=jb
  rw [ho] at hg
  simp only [compGd,Option.bind_eq_some_iff,Option.map_eq_some_iff] at hg
  obtain ⟨oj,hj,d,hd,rfl⟩:=hg
  simp only [wanted] at hw
  have hj':ops[j]?=some oj:=by simpa using hj
  have hy:yielded ops a.tmps j=(match a.tmps[d]? with | some (.bool b)=>some b | _=>none):=by
   simp only [yielded,hj',Option.bind_some,hd]
   rfl
  simp only [hy]
  cases hx:a.tmps[d]? with
  | none =>
   have:nt≤d:=by
    rw [← hF.size]
    exact Array.getElem?_eq_none_iff.1 hx
   rw [hF.past d this] at hw
   cases hw
  | some x =>
   have hr:=(hF.tmp d x hx).rel
   cases hFd:F d<;>rw [hFd] at hw hr<;>simp only [Rel] at hr<;>simp only [Option.some.injEq,reduceCtorEq] at hw
   case bool t =>
    subst hr
    simp only [← hw]
    cases t<;>cases c<;>rfl
   all_goals
    subst hw
    first
     | (subst hr; rfl)
     | (obtain ⟨_,_,rfl⟩:=hr; rfl)
     | (obtain ⟨_,_,rfl,_⟩:=hr; rfl)
     | (obtain ⟨_,_,_,rfl,_⟩:=hr; rfl)
     | (obtain ⟨_,rfl,_⟩:=hr; rfl)
     | (obtain ⟨_,rfl⟩:=hr; rfl)
     | (obtain ⟨_,_,_,_,_,rfl⟩:=hr; rfl)
theorem run_call_func {x:Operand} {args:Array Operand} {ts:Array TypeId} {f:Nat} {cs:List Value} (he:o.op=.call { callee:=.value x,args:=args,argTypes:=ts }) (hx:a.eval x=.func (.func f) #[] ⟨cs⟩) (hent:Enters P f) :
  (execOp a.eval o).run P w=.ok (.enter f ⟨args.toList.map a.eval++cs⟩) w:=by
 have e:(args.map a.eval++(⟨cs⟩:Array Value))=⟨args.toList.map a.eval++cs⟩:=by apply Array.ext'; simp
 simp [execOp,he,resolve,hx,Deferred.ofValue,invoke,run_callFunc hent,e]
theorem run_call_yield {x:Operand} {args:Array Operand} {ts:Array TypeId} {l:Nat} {cs:List Value} {r:Loop} (he:o.op=.call { callee:=.value x,args:=args,argTypes:=ts }) (hx:a.eval x=.func (.yield l) #[] ⟨cs⟩) (hh:w.heap[l]?=some (.loop r)) (hs:args.toList.length=r.params.size) :
  (execOp a.eval o).run P w=.ok (.round l r.fn ((r.params.zip ⟨args.toList.map a.eval⟩).foldl (fun tmps (t,a)=>tmps.setIfInBounds t a) r.tmps) r.assign r.body) w:=by
 have e:args.map a.eval=⟨args.toList.map a.eval⟩:=by apply Array.ext'; simp
 have hy:=run_yield (P:=P) (args:=⟨args.toList.map a.eval⟩) hh (by simpa using hs)
 simp [execOp,he,resolve,hx,Deferred.ofValue,invoke,e,hy]
theorem run_call_inv {x:Operand} {m:String} {args:Array Operand} {ts:Array TypeId} {t f:Nat} {y:Value} (he:o.op=.call { callee:=.invoke x m,args:=args,argTypes:=ts }) (hx:a.eval x=.iface t y) (hm:(method (P.types.size+Made.depth) t y m).run P w=.ok (f,y) w) (hent:Enters P f) :
  (execOp a.eval o).run P w=.ok (.enter f ⟨y::args.toList.map a.eval⟩) w:=by
 have e:(#[y]++Array.extract (#[Value.iface t y]++args.map a.eval) 1 (#[Value.iface t y]++args.map a.eval).size)=(⟨y::args.toList.map a.eval⟩:Array Value):=by
  apply Array.ext'; simp [List.extract_eq_take_drop]
  exact List.take_of_length_le (by simp)
 have e0:(#[Value.iface t y]++args.map a.eval)[0]?=some (Value.iface t y):=by
  rw [Array.getElem?_append_left (Nat.zero_lt_one)]; rfl
 simp only [execOp,he,resolve,hx,Sem.run_bind,Sem.run_pure,Result.andThen_ok,invoke,e0,callMethod]
 rw [show Sem.run P program w=Result.ok P w from rfl]
 simp only [Result.andThen_ok,hm,e,run_callFunc hent]
theorem upon_enter {f:Nat} {args:Array Value} {R:Ending→World→Prop} (h:CallsIn Fence.wide 0 P f args w R) (hret:∀ x w',R (.returned x) w'→K (a.put o.dst x) w') (hpan:∀ ch w',R (.panicked ch) w'→Q (.panic ch) a w') (hout:∀ w', ¬ R .outgrown w') :
  o.uponIn (fen ro) 0 P a K Q (.ok (.enter f args) w):=by
 rw [Oper.uponIn_enter]
 refine ⟨fun h=>by simp [fen,Fence.wide] at h,?_⟩
 have h':CallsIn (fen ro) 0 P f args w R:=h
 refine CallsIn.mono h' fun e w' he=>?_
 cases e with
 | returned x=>exact hret x w' he
 | panicked ch=>exact hpan ch w' he
 | outgrown=>exact absurd he (hout w')
theorem upon_round {l f:Nat} {tmps:Array Value} {x y:Code} {R:Ending→World→Prop} (h:RoundIn Fence.wide 0 P l f tmps x y w R) (hret:∀ x w',R (.returned x) w'→K (a.put o.dst x) w') (hpan:∀ ch w',R (.panicked ch) w'→Q (.panic ch) a w') (hout:∀ w', ¬ R .outgrown w') :
  o.uponIn (fen ro) 0 P a K Q (.ok (.round l f tmps x y) w):=by
 rw [Oper.uponIn_round]
 refine ⟨fun h=>by simp [fen,Fence.wide] at h,?_⟩
 have h':RoundIn (fen ro) 0 P l f tmps x y w R:=h
 refine RoundIn.mono h' fun e w' he=>?_
 cases e with
 | returned x=>exact hret x w' he
 | panicked ch=>exact hpan ch w' he
 | outgrown=>exact absurd he (hout w')
theorem outPost_out {T':St} {out:Out} {w':World}:¬ OutPost P T g w T' out .outgrown w':=by
 intro h
 cases out with
 | ret v=>obtain ⟨_,_,h,_⟩:=h; cases h
 | pan v=>obtain ⟨_,_,h,_⟩:=h; cases h
 | esc v L=>obtain ⟨_,_,h,_⟩:=h; cases h
theorem back_ret (I:Inv P T g w) (hF:FrRel P T g w nt F a.tmps) (ht:∀ t,tame (F t)=true) {d:Option Nat} (hd:inNt nt d=true) {out:Out} {T1:St} {w1:World} (hb:back F d (some (out,T1))=some r) (hG:Goes P T g w nt F a K Q r)
  {x:Value} (hp:OutPost P T (g.drop T.length) w T1 out (.returned x) w1):K (a.put d x) w1:=by
 unfold back at hb
 split at hb
 ·rename_i h
  simp only [Option.some.injEq,Prod.mk.injEq] at h
  obtain ⟨rfl,rfl⟩:=h
  injection hb with hb; subst hb
  obtain ⟨g1,y,hy,hdn,I1,hlen,hr,htv,ho⟩:=hp
  injection hy with hy; subst hy
  obtain ⟨g',hg'⟩:=step_call I hF (fun t _ _=>not_mir (ht t)) hd hdn I1 hlen trivial hr htv ho
  exact hG.ok _ _ rfl _ _ _ hg' (tame_putO ht htv)
 ·rename_i h
  simp only [Option.some.injEq,Prod.mk.injEq] at h
  obtain ⟨rfl,rfl⟩:=h
  obtain ⟨g1,y,hy,_⟩:=hp
  cases hy
 ·cases hb
theorem back_pan (I:Inv P T g w) (hF:FrRel P T g w nt F a.tmps) (ht:∀ t,tame (F t)=true) {d:Option Nat} {out:Out} {T1:St} {w1:World} (hb:back F d (some (out,T1))=some r) (hG:Goes P T g w nt F a K Q r)
  {ch:List PanicEntry} (hp:OutPost P T (g.drop T.length) w T1 out (.panicked ch) w1):Q (.panic ch) a w1:=by
 unfold back at hb
 split at hb
 ·rename_i h
  simp only [Option.some.injEq,Prod.mk.injEq] at h
  obtain ⟨rfl,rfl⟩:=h
  obtain ⟨g1,y,hy,_⟩:=hp
  cases hy
 ·rename_i h
  simp only [Option.some.injEq,Prod.mk.injEq] at h
  obtain ⟨rfl,rfl⟩:=h
  injection hb with hb; subst hb
  obtain ⟨g1,y,hy,hdn,I1,hlen,hr⟩:=hp
  injection hy with hy; subst hy
  obtain ⟨hle,_,hsame,hinv⟩:=inv_give I hdn I1 hlen none
  refine hG.pan _ _ rfl _ _ _ ⟨⟨hF.size,hF.past,fun t y hy=>(hF.tmp t y hy).same I hsame hle hlen (by simp [keepU]) (.inl (not_mir (ht t)))⟩,hle,hsame.frm (by simp [keepU]),hinv,hlen,fun b hb hu=>?_,rel_mono (le_give hdn.frm 0 (Nat.zero_le _)) (Nat.le_refl _) _ _ hr⟩
  obtain ⟨h1,h2,_⟩:=hsame.old b hb (by rw [hu]; simp [keepU])
  exact ⟨h2.trans hu,h1⟩
 ·cases hb
theorem calm_args {args:List V} (h:tames args=true):∀ v∈args.map strip,isCalm v=true:=by
 intro v hv
 obtain ⟨u,hu,rfl⟩:=List.mem_map.1 hv
 exact isCalm_strip (tames_iff.1 h u hu)
theorem calm_args' {args:List V} (h:tames (args.map strip)=true):∀ v∈args.map strip,isCalm v=true:=by
 intro v hv
 have h1:=tames_iff.1 h v hv
 obtain ⟨u,hu,rfl⟩:=List.mem_map.1 hv
 exact isCalm_of h1 fun e xs=>strip_own
theorem full_call (hE:CallOk P cE) (I:Inv P T g w) (hF:FrRel P T g w nt F a.tmps) (ht:∀ t,tame (F t)=true) {d:Option Nat} (hd:inNt nt d=true) (hdst:o.dst=d) {f:Nat} {args:List V} {vals:List Value} (hargs:RelL g T.length args vals) (hcalm:∀ v∈args,isCalm v=true)
  (hb:back F d (cE (.fn f) args T)=some r) (hG:Goes P T g w nt F a K Q r):Enters P f∧o.uponIn (fen ro) 0 P a K Q (.ok (.enter f ⟨vals⟩) w):=by
 cases hc:cE (.fn f) args T with
 | none=>rw [hc] at hb; simp [back] at hb
 | some p =>
  obtain ⟨out,T1⟩:=p
  rw [hc] at hb
  obtain ⟨h1,h2⟩:=hE (.fn f) args T out T1 hc (g.drop T.length) w vals (inv_drop I) (clean_drop _) (relL_mono le_drop (Nat.le_succ _) _ _ hargs) hcalm
  subst hdst
  exact ⟨h1,upon_enter h2 (fun x w' h=>back_ret I hF ht hd hb hG h) (fun ch w' h=>back_pan I hF ht hb hG h) (fun w'=>outPost_out)⟩
theorem yield_call (hE:CallOk P cE) (I:Inv P T g w) (hF:FrRel P T g w nt F a.tmps) (ht:∀ t,tame (F t)=true) {d:Option Nat} (hd:inNt nt d=true) (hdst:o.dst=d) {l:Nat} {args:List V} {vals:List Value} (hl:l+1 < T.length) (hu:g.use (g.lp l)=.loop l) (hargs:RelL g T.length args vals) (hcalm:∀ v∈args,isCalm v=true)
  (hb:back F d (cE (.yield l) args T)=some r) (hG:Goes P T g w nt F a K Q r):∃ rc:Loop,w.heap[g.lp l]?=some (.loop rc)∧vals.length=rc.params.size ∧
   o.uponIn (fen ro) 0 P a K Q (.ok (.round (g.lp l) rc.fn ((rc.params.zip ⟨vals⟩).foldl (fun tmps (t,a)=>tmps.setIfInBounds t a) rc.tmps) rc.assign rc.body) w):=by
 cases hc:cE (.yield l) args T with
 | none=>rw [hc] at hb; simp [back] at hb
 | some p =>
  obtain ⟨out,T1⟩:=p
  rw [hc] at hb
  obtain ⟨rc,h1,h2,h3⟩:=hE (.yield l) args T out T1 hc (g.drop T.length) w vals (inv_drop I) (clean_drop _) (relL_mono le_drop (Nat.le_succ _) _ _ hargs) hcalm (by omega) (by
   show (g.drop T.length).use (g.lp l)=_
   rw [drop_keep (by rw [hu]; simp [keepU]; omega)]; exact hu)
  subst hdst
  exact ⟨rc,h1,h2,upon_round h3 (fun x w' h=>back_ret I hF ht hd hb hG h) (fun ch w' h=>back_pan I hF ht hb hG h) (fun w'=>outPost_out)⟩
end
end AM
end Go.Proofs.Ytimfbnojmdnlnaa
end
