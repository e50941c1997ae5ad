/- Arguments as they lie in memory, as trees; What a row asks behind the call, where nothing old has turned and the result is true. -/
import Derived.Test.YtimfbnojmdnlnaaKM10
import Derived.ProofKit
import Derived.Test.YtimfbnojmdnlnaaRows
import Derived.Carry
import Derived.ChangeSame
set_option linter.all false
section
namespace Go.Proofs.Ytimfbnojmdnlnaa
namespace AM
def g0 (W:World):Gh:=⟨fun b o=>W.cell? ⟨b,o,none⟩,fun _ _=>0,fun _=>0,fun _=>.free,fun _ _=>none⟩
theorem inv_g0 {P:Program} {W:World} (h:Base P (g0 W)):Inv P [] (g0 W) W:={
 K:=h
 G b o v hv:=⟨hv, .inl rfl⟩
 U _ _:=rfl
 B l i cs hc:=by simp [getBox] at hc
 L l p hp:=by simp [getLp] at hp
 N l i hl:=by simp at hl }
def contigL (P:Program):Nat→List Field→Option Nat
 | o,[]=>some o
 | o,f::fs=>if f.offset=o then contigL P (o+P.cellsOf f.type) fs else none
def closedT (P:Program) (tys:List Nat):Bool :=
 tys.all fun t =>
  match P.underlying t with
  | some .bool=>true
  | some (.int _)=>true
  | some .string=>true
  | some (.slice e)=>tys.contains e&&decide (0 < P.cellsOf e)
  | some (.struct fs)=>(contigL P 0 fs.toList == some (P.cellsOf t))&&fs.toList.all fun f=>tys.contains f.type
  | _=>false
def typed (P:Program):Nat→TypeId→List V→Prop
 | 0,_,_=>False
 | n+1,t,cs =>
  match P.underlying t with
  | some .bool=>∃ b,cs=[.bool b]
  | some (.int k)=>∃ m,cs=[.int k m]∧k.min≤m∧m≤k.max
  | some .string=>∃ s,cs=[.str s]∧s.size≤maxLen
  | some (.slice e)=>cs=[.slice .nil []]∨∃ xs,cs=[.slice .shut xs]∧xs.length≤maxLen∧∀ x∈xs,x.length=P.cellsOf e∧typed P n e x
  | some (.struct fs)=>cs.length=P.cellsOf t∧∀ f∈fs.toList,typed P n f.type ((cs.drop f.offset).take (P.cellsOf f.type))
  | _=>False
theorem rowsG_rows {g:Gh} {n:Nat}:∀ {xs:List (List V)} {a:Addr},(∀ x∈xs,x.length=n)→(∀ (i:Nat) (x:List V),xs[i]?=some x→AtG g a.block (a.off+i*n) x)→RowsG g (some a) xs
 | [],a,_,_=>by simp [RowsG]
 | x::xs,a,hn,h=>by
  simp only [RowsG]
  refine ⟨by simpa using h 0 x rfl,rowsG_rows (fun y hy=>hn y (List.mem_cons_of_mem _ hy)) fun i y hy=>?_⟩
  have:=h (i+1) y (by simpa using hy)
  rw [hn x List.mem_cons_self]
  simpa [Nat.succ_mul,Nat.add_assoc,Nat.add_comm,Nat.add_left_comm] using this
theorem mapM_list {α β:Type} {R:α→β→Prop}:∀ {l:List α},(∀ x∈l, ∃ y,R x y)→∃ ys:List β,ys.length=l.length∧∀ (i:Nat) (x:α),l[i]?=some x→∃ y,ys[i]?=some y∧R x y
 | [],_=>⟨[],rfl,by simp⟩
 | x::l,h=>by
  obtain ⟨y,hy⟩:=h x List.mem_cons_self
  obtain ⟨ys,h1,h2⟩:=mapM_list (l:=l) fun z hz=>h z (List.mem_cons_of_mem _ hz)
  refine ⟨y::ys,by simp [h1],fun i z hz=>?_⟩
  cases i with
  | zero=>simp at hz; subst hz; exact ⟨y,rfl,hy⟩
  | succ i=>simpa using h2 i z (by simpa using hz)
theorem fields_whole {P:Program} {cs:List Value}:∀ {fs:List Field} {o e:Nat},contigL P o fs=some e→e≤cs.length→(fs.flatMap fun f=>(cs.drop f.offset).take (P.cellsOf f.type))=(cs.drop o).take (e - o)∧o≤e
 | [],o,e,h,_=>by simp [contigL] at h; subst h; simp
 | f::fs,o,e,h,he=>by
  simp only [contigL] at h
  split at h<;>try (cases h; done)
  rename_i hf
  obtain ⟨h1,h2⟩:=fields_whole h he
  refine ⟨?_,by omega⟩
  simp only [List.flatMap_cons,h1,hf]
  rw [show e - o=P.cellsOf f.type+(e - (o+P.cellsOf f.type)) from by omega,List.take_add,List.drop_drop]
theorem contig_le {P:Program}:∀ {fs:List Field} {o e:Nat},contigL P o fs=some e→∀ f∈fs,f.offset+P.cellsOf f.type≤e∧o≤e
 | [],o,e,h,f,hf=>by simp at hf
 | f::fs,o,e,h,g,hg=>by
  simp only [contigL] at h
  split at h<;>try (cases h; done)
  rename_i ho
  have hoe:o+P.cellsOf f.type≤e:=by
   cases fs with
   | nil=>simp [contigL] at h; omega
   | cons f2 fs2=>exact (contig_le h f2 List.mem_cons_self).2
  rcases List.mem_cons.1 hg with rfl | hg
  ·exact ⟨by omega,by omega⟩
  ·exact ⟨(contig_le h g hg).1,by omega⟩
theorem relL_flatMap {g:Gh} {d:Nat} {α:Type} {f:α→List V} {h:α→List Value}:∀ {l:List α},(∀ x∈l,RelL g d (f x) (h x))→RelL g d (l.flatMap f) (l.flatMap h)
 | [],_=>by simp [RelL]
 | x::l,H=>by
  simp only [List.flatMap_cons]
  exact relL_append (H x List.mem_cons_self) (relL_flatMap fun y hy=>H y (List.mem_cons_of_mem _ hy))
theorem cells?_get {w:World} {a:Addr} {n:Nat} {cs:List Value} (h:w.cells? 0 a n=some cs):cs.length=n∧∀ (j:Nat) (v:Value),cs[j]?=some v→w.cell? (a.add j)=some v:=by
 unfold World.cells? at h
 rw [if_pos (Nat.zero_le _)] at h
 obtain ⟨h1,h2⟩:=mapM_get h
 refine ⟨by simpa using h1,fun j v hv=>?_⟩
 have hj:j < n:=by
  have:=(List.getElem?_eq_some_iff.1 hv).1
  simpa [h1] using this
 obtain ⟨y,hy,hc⟩:=h2 j j (List.getElem?_range hj)
 rw [hv] at hy; injection hy with hy; subst hy
 exact hc
theorem typed_flat {P:Program} {n:Nat} {fs:List Field} {vf:Field→List V} {o e:Nat} (hc:contigL P o fs=some e) (hl:∀ f∈fs,(vf f).length=P.cellsOf f.type):(fs.flatMap vf).length=e - o∧o≤e∧∀ f∈fs,o≤f.offset∧((fs.flatMap vf).drop (f.offset - o)).take (P.cellsOf f.type)=vf f:=by
 induction fs generalizing o with
 | nil=>simp [contigL] at hc; subst hc; simp
 | cons f fs ih =>
  simp only [contigL] at hc
  split at hc<;>try (cases hc; done)
  rename_i hf
  obtain ⟨h1,h2,h3⟩:=ih hc fun g hg=>hl g (List.mem_cons_of_mem _ hg)
  have hlf:=hl f List.mem_cons_self
  refine ⟨by simp only [List.flatMap_cons,List.length_append,h1,hlf]; omega,by omega,fun g hg=>?_⟩
  rcases List.mem_cons.1 hg with rfl | hg
  ·refine ⟨by omega,?_⟩
   rw [hf,Nat.sub_self,List.drop_zero,List.flatMap_cons, ← hlf]
   exact List.take_left
  ·obtain ⟨h4,h5⟩:=h3 g hg
   refine ⟨by omega,?_⟩
   rw [List.flatMap_cons,show g.offset - o=(vf f).length+(g.offset - (o+P.cellsOf f.type)) from by omega,List.drop_append,List.drop_eq_nil_of_le (by omega:(vf f).length≤(vf f).length+(g.offset - (o+P.cellsOf f.type))),List.nil_append,Nat.add_sub_cancel_left]
   exact h5
-- What a tree weighs: its cells.
mutual
def wt:V→Nat
 | .slice _ xs=>1+wtR xs
 | _=>1
def wtL:List V→Nat
 | []=>0
 | v::vs=>wt v+wtL vs
def wtR:List (List V)→Nat
 | []=>0
 | x::xs=>wtL x+wtR xs
end
theorem wtL_append:∀ {xs ys:List V},wtL (xs++ys)=wtL xs+wtL ys
 | [],ys=>by simp [wtL]
 | x::xs,ys=>by simp only [List.cons_append,wtL,wtL_append]; omega
theorem bulk_rows {H:Type} {β:Type} {f:β→DataW H}:∀ {xs:List (List V)} {ys:List β},ys.length=xs.length→(∀ (i:Nat) (x:List V) (y:β),xs[i]?=some x→ys[i]?=some y→wtL x≤Rows.uptoBulk (f y))→wtR xs≤Rows.uptoBulkAll (ys.map f)
 | [],ys,_,_=>by simp [wtR]
 | x::xs,[],h,_=>by simp at h
 | x::xs,y::ys,h,hi=>by
  simp only [wtR,List.map_cons,Rows.uptoBulkAll]
  have h1:=hi 0 x y rfl rfl
  have h2:=bulk_rows (f:=f) (xs:=xs) (ys:=ys) (by simpa using h) fun i a b ha hb=>hi (i+1) a b (by simpa using ha) (by simpa using hb)
  omega
theorem wt_flat {α:Type} {f:α→List V}:∀ {l:List α},wtL (l.flatMap f)=wtR (l.map f)
 | []=>rfl
 | x::l=>by simp only [List.flatMap_cons,List.map_cons,wtL_append,wtR,wt_flat]
theorem trod_open {H:Type} {enc:TypeId×Value→H} {P:Program} {w:World} {tys:List Nat} (hT:closedT P tys=true) {spare:Nat→Bool} {held:Bool}:∀ (fuel:Nat) (t:TypeId) (cs:List Value) (d:DataW H) (ps:List MemPlace),t∈tys→DataW.trod enc P w 0 spare held fuel t cs=some (d,ps) →
  ∃ vs,RelL (g0 w) 0 vs cs∧isCells vs=true∧typed P fuel t vs∧wtL vs≤Rows.uptoBulk d
 | 0,t,cs,d,ps,_,h=>by simp [DataW.trod] at h
 | fuel+1,t,cs,d,ps,ht,h=>by
  have hc:=List.all_eq_true.1 hT t ht
  unfold DataW.trod at h
  split at h
  all_goals (try (cases h; done))
  all_goals (rename_i hu; try (rw [hu] at hc; cases hc; done))
  case h_1 =>
   rename_i b
   cases h
   refine ⟨[.bool b],by simp [RelL,Rel],rfl,?_,by simp [wtL,wt,Rows.uptoBulk]⟩
   simp only [typed,hu]
   exact ⟨b,rfl⟩
  case h_2 =>
   rename_i k k' n
   split at h<;>try (cases h; done)
   rename_i hk
   obtain ⟨rfl,hwf⟩:=hk
   cases h
   refine ⟨[.int k' n],by simp [RelL,Rel],rfl,?_,by simp [wtL,wt,Rows.uptoBulk]⟩
   simp only [typed,hu]
   simp only [Lit.wf,Bool.and_eq_true,decide_eq_true_eq] at hwf
   exact ⟨n,rfl,hwf.1,hwf.2⟩
  case h_4 =>
   rename_i x
   split at h<;>try (cases h; done)
   rename_i hs
   cases h
   refine ⟨[.str x],by simp [RelL,Rel],rfl,?_,by simp [wtL,wt,Rows.uptoBulk]⟩
   simp only [typed,hu]
   exact ⟨x,rfl,hs⟩
  case h_7 =>
   rename_i e
   cases h
   refine ⟨[.slice .nil []],?_,rfl,?_,by simp [wtL,wt,wtR,Rows.uptoBulk]⟩
   ·simp only [RelL,Rel]
    exact ⟨_,[],rfl,⟨none,0,0,rfl,rfl,Nat.le_refl _,⟨0,by simp⟩,by simp [RowsG],by simp,rfl,rfl⟩,rfl⟩
   ·simp only [typed,hu]
    exact .inl trivial
  case h_8 =>
   rename_i e a len cap
   simp only at h
   split at h<;>try (cases h; done)
   rename_i hcap
   simp only [Option.bind_eq_some_iff] at h
   obtain ⟨elems,hel,hrest⟩:=h
   obtain ⟨rest,_,hd⟩:=Option.map_eq_some_iff.1 hrest
   cases hd
   rw [hu] at hc
   simp only [Bool.and_eq_true,decide_eq_true_eq,List.contains_iff_mem] at hc
   obtain ⟨he,hpos⟩:=hc
   obtain ⟨hl,hj⟩:=mapM_get hel
   have hrow:∀ i∈List.range len, ∃ x:List V, ∃ cs,w.cells? 0 (a.add (i*P.cellsOf e)) (P.cellsOf e)=some cs∧RelL (g0 w) 0 x cs∧isCells x=true∧typed P fuel e x∧∀ y,elems[i]?=some y→wtL x≤Rows.uptoBulk y.1:=by
    intro i hi
    obtain ⟨y,hy,hb⟩:=hj i i (List.getElem?_range (List.mem_range.1 hi))
    simp only [Option.bind_eq_some_iff] at hb
    obtain ⟨cs,h1,h2⟩:=hb
    obtain ⟨x,h3,h4,h5,h6⟩:=trod_open hT fuel e cs y.1 y.2 he h2
    exact ⟨x,cs,h1,h3,h4,h5,fun z hz=>by rw [hy] at hz; cases hz; exact h6⟩
   obtain ⟨xs,hxl,hxs⟩:=mapM_list hrow
   simp only [List.length_range] at hxl
   have hget:∀ (i:Nat) (x:List V),xs[i]?=some x→i < len∧∃ cs,w.cells? 0 (a.add (i*P.cellsOf e)) (P.cellsOf e)=some cs∧RelL (g0 w) 0 x cs∧isCells x=true∧typed P fuel e x∧∀ y,elems[i]?=some y→wtL x≤Rows.uptoBulk y.1:=by
    intro i x hx
    have hi:i < len:=by have:=(List.getElem?_eq_some_iff.1 hx).1; omega
    obtain ⟨y,hy,hr⟩:=hxs i i (List.getElem?_range hi)
    rw [hx] at hy; injection hy with hy; subst hy
    exact ⟨hi,hr⟩
   have hlen:∀ x∈xs,x.length=P.cellsOf e:=fun x hx=>by
    obtain ⟨i,hi⟩:=List.getElem?_of_mem hx
    obtain ⟨_,cs,h1,h2,_,_⟩:=hget i x hi
    rw [relL_length h2,(cells?_get h1).1]
   have hspot:xs≠[]→a.spot=none:=fun hne=>by
    obtain ⟨x,hx⟩:=List.exists_mem_of_ne_nil _ hne
    obtain ⟨i,hi⟩:=List.getElem?_of_mem hx
    have hx0:0 < xs.length:=List.length_pos_iff.2 hne
    have h00:xs[0]?=some (xs[0]'hx0):=List.getElem?_eq_getElem hx0
    obtain ⟨_,cs,h1,h2,_,_⟩:=hget 0 _ h00
    obtain ⟨h3,h4⟩:=cells?_get h1
    have h5:=h4 0 _ (List.getElem?_eq_getElem (by omega))
    have h6:=World.cell?_spot h5
    simpa [Addr.add] using h6
   refine ⟨[.slice .shut xs],?_,rfl,?_,?_⟩
   ·simp only [RelL,Rel]
    refine ⟨_,[],rfl,⟨some a,len,cap,rfl,hxl.symm,hcap.2.1,⟨P.cellsOf e,hlen⟩,rowsG_rows hlen fun i x hx=>?_,fun hne ad had=>by injection had with had; subst had; exact hspot hne,by simp⟩,rfl⟩
    obtain ⟨hi,cs,h1,h2,h3,_⟩:=hget i x hx
    obtain ⟨h4,h5⟩:=cells?_get h1
    have hsp:=hspot (by rintro rfl; simp at hx)
    refine atG_of fun j c hcj=>?_
    obtain ⟨v,hv,hrv⟩:=relL_at h2 hcj
    refine ⟨v,?_,isCells_iff.1 h3 c (List.mem_of_getElem? hcj),hrv⟩
    have h6:=h5 j v hv
    obtain ⟨b,off,sp⟩:=a
    simp only at hsp
    subst hsp
    rw [add_lit,add_lit] at h6
    exact h6
   ·simp only [typed,hu]
    refine .inr ⟨xs,rfl,by omega,fun x hx=>⟨hlen x hx,?_⟩⟩
    obtain ⟨i,hi⟩:=List.getElem?_of_mem hx
    obtain ⟨_,_,_,_,_,h5,_⟩:=hget i x hi
    exact h5
   ·simp only [wtL,wt,Rows.uptoBulk]
    have:=bulk_rows (f:=fun y:DataW H×List MemPlace=>y.1) (xs:=xs) (ys:=elems) (by rw [hl,List.length_range,hxl]) fun i x y hx hy=>by
     obtain ⟨_,_,_,_,_,_,h6⟩:=hget i x hx
     exact h6 y hy
    omega
  case h_9 =>
   rename_i cs _ _ fs
   split at h<;>try (cases h; done)
   rename_i hlen
   obtain ⟨xs,hxs,hd⟩:=Option.map_eq_some_iff.1 h
   cases hd
   rw [hu] at hc
   simp only [Bool.and_eq_true,beq_iff_eq] at hc
   obtain ⟨hcon,hall⟩:=hc
   obtain ⟨hl,hj⟩:=mapM_get hxs
   have hfield:∀ f∈fs.toList, ∃ vs,RelL (g0 w) 0 vs ((cs.drop f.offset).take (P.cellsOf f.type))∧isCells vs=true∧typed P fuel f.type vs∧∀ z,DataW.trod enc P w 0 spare held fuel f.type ((cs.drop f.offset).take (P.cellsOf f.type))=some z→wtL vs≤Rows.uptoBulk z.1:=by
    intro f hf
    obtain ⟨i,hi⟩:=List.getElem?_of_mem hf
    obtain ⟨y,hy,hb⟩:=hj i f hi
    have hft:=List.all_eq_true.1 hall f hf
    obtain ⟨vs,h3,h4,h5,h6⟩:=trod_open hT fuel f.type _ y.1 y.2 (by simpa using hft) hb
    exact ⟨vs,h3,h4,h5,fun z hz=>by rw [hb] at hz; cases hz; exact h6⟩
   have hchoose:∃ vf:Field→List V, ∀ f∈fs.toList,RelL (g0 w) 0 (vf f) ((cs.drop f.offset).take (P.cellsOf f.type))∧isCells (vf f)=true∧typed P fuel f.type (vf f)∧∀ z,DataW.trod enc P w 0 spare held fuel f.type ((cs.drop f.offset).take (P.cellsOf f.type))=some z→wtL (vf f)≤Rows.uptoBulk z.1:=by
    classical
    refine ⟨fun f=>if h:f∈fs.toList then Classical.choose (hfield f h) else [],fun f hf=>?_⟩
    simp only [hf,dif_pos]
    exact Classical.choose_spec (hfield f hf)
   obtain ⟨vf,hvf⟩:=hchoose
   obtain ⟨hw,_⟩:=fields_whole (cs:=cs) hcon (by omega)
   rw [List.drop_zero,Nat.sub_zero, ← hlen,List.take_length] at hw
   have hvl:∀ f∈fs.toList,(vf f).length=P.cellsOf f.type:=by
    intro f hf
    have h1:=relL_length (hvf f hf).1
    have h2:=contig_le hcon f hf
    simp only [List.length_take,List.length_drop] at h1
    omega
   refine ⟨fs.toList.flatMap vf,?_,?_,?_,?_⟩
   ·have:=relL_flatMap (l:=fs.toList) fun f hf=>(hvf f hf).1
    rw [hw] at this
    exact this
   ·exact isCells_iff.2 fun c hc=>by
     obtain ⟨f,hf,hcf⟩:=List.mem_flatMap.1 hc
     exact isCells_iff.1 (hvf f hf).2.1 c hcf
   ·obtain ⟨h1,_,h3⟩:=typed_flat (P:=P) (n:=fuel) hcon hvl
    simp only [typed,hu]
    refine ⟨by simpa using h1,fun f hf=>?_⟩
    obtain ⟨_,h4⟩:=h3 f hf
    rw [Nat.sub_zero] at h4
    rw [h4]
    exact (hvf f hf).2.2.1
   ·rw [wt_flat]
    simp only [Rows.uptoBulk]
    have:=bulk_rows (f:=fun y:DataW H×List MemPlace=>y.1) (xs:=fs.toList.map vf) (ys:=xs) (by rw [hl,List.length_map]) fun i x y hx hy=>by
     rw [List.getElem?_map] at hx
     obtain ⟨f,hf,rfl⟩:=Option.map_eq_some_iff.1 hx
     obtain ⟨z,hz,hzt⟩:=hj i f hf
     rw [hy] at hz; cases hz
     exact (hvf f (List.mem_of_getElem? hf)).2.2.2 y hzt
    omega
  all_goals (rw [hu] at hc; simp at hc)
end AM
end Go.Proofs.Ytimfbnojmdnlnaa
end
section
namespace Go.Proofs.Ytimfbnojmdnlnaa
namespace AM
open Go.RowKit Go.ChangeShapes Go.WideShapes Go.ChangeAt
section
variable {H:Type} {enc:TypeId×Value→H} {P:Program}
theorem trodAll_stays (hl:laidOutB P=true) {W W':World} {sp:Nat→Bool} (hb:Below W.heap.size W W'):∀ {ts:List TypeId} {vs:List Value} {ds:List (DataW H)} {ps:List MemPlace},(∀ t∈ts,P.readableRec t=true∧t < P.types.size) →
  DataW.TrodAll enc P W 0 (fun _=>true) true ts vs ds ps→(∀ x∈ps,x.block < W.heap.size∧sp x.block=true)→DataW.TrodAll enc P W' 0 sp true ts vs ds ps
 | [],[],[],ps,_,h,_=>h
 | t::ts,v::vs,d::ds,ps,ht,h,hp=>by
  obtain ⟨p,q,h1,h2,rfl⟩:=h
  exact ⟨p,q,WideElems.Trod_stays hl (ht t List.mem_cons_self).1 (ht t List.mem_cons_self).2 h1 (fun x hx=>hb.same (hp x (List.mem_append_left _ hx)).1) (fun x hx=>(hp x (List.mem_append_left _ hx)).2),
   trodAll_stays hl hb (fun u hu=>ht u (List.mem_cons_of_mem _ hu)) h2 (fun x hx=>hp x (List.mem_append_right _ hx)),rfl⟩
 | [],_::_,_,_,_,h,_=>h.elim
 | [],[],_::_,_,_,h,_=>h.elim
 | _::_,[],_,_,_,h,_=>h.elim
 | _::_,_::_,[],_,_,h,_=>h.elim
theorem keptBut_below {W W':World} (hb:Below W.heap.size W W') (may:MemPlace→Prop):W.keptBut W' may:=by
 refine ⟨hb.os,hb.output,fun i hi=>?_⟩
 rw [hb.block i hi]
 cases h:W.heap[i]? with
 | none=>rfl
 | some o =>
  cases o<;>first | exact ⟨rfl,rfl,rfl,fun _ _=>rfl⟩ | exact .inr ⟨rfl,rfl⟩ | rfl
theorem post_true (hl:laidOutB P=true) {f:Func} {s:ChangeSpec} {handsOn again:Bool} {W W':World} {args:Array Value} {ds gs:List (DataW H)} {before:List MemPlace} {tb:TypeId}
  (hW:DataW.Whole enc P f.params.toList s.vars false W args.toList ds gs before) (hb:Below W.heap.size W W') (hv:s.vars=[]) (hr:f.resultTypes=#[tb]) (ht:P.underlying tb=some .bool) (hp:∀ t∈f.params.toList,P.readableRec t=true∧t < P.types.size)
  (hs:(s.fn H (ds++gs)).results=[.lit (.bool true)]∧(s.fn H (ds++gs)).args=ds∧(s.fn H (ds++gs)).vars=[]) {fresh:Bool} :
  s.post enc P f false fresh handsOn again W args (.bool true) W':=by
 have hlt:=hW.lt
 have hW0:=hW
 obtain ⟨p,q,hA,hV,rfl,hfz,_⟩:=hW
 rw [hv] at hV
 have hq:gs=[]∧q=[]:=by
  cases gs with
  | nil=>exact ⟨rfl,hV⟩
  | cons _ _=>exact hV.elim
 obtain ⟨rfl,rfl⟩:=hq
 rw [List.append_nil] at hlt hfz hW0 hs
 have hres:∀ (b:Nat) (sp:Nat→Bool) (hd:Bool),DataW.TrodAll enc P W' b sp hd f.resultTypes.toList ((Value.bool true).resultList f.resultTypes.size) [.lit (.bool true)] []:=by
  intro b sp hd
  rw [hr]
  refine ⟨[],[],⟨1,?_⟩,rfl,rfl⟩
  simp [DataW.trod,ht,Value.cells]
 have hargs:∀ sp:Nat→Bool,(∀ x∈p,sp x.block=true)→DataW.TrodAll enc P W' 0 sp true f.params.toList args.toList ds p:=fun sp hsp=>trodAll_stays hl hb hp hA fun x hx=>⟨hlt x hx,hsp x hx⟩
 refine ⟨ds,[],p,[],p,[],hW0,?_,?_,?_,World.keptBut_mono (fun x hx=>hx.elim) (keptBut_below hb (fun _=>False)),fun _=>⟨?_,?_⟩⟩
 ·rw [List.append_nil,hs.1]; exact hres _ _ _
 ·rw [List.append_nil,hs.2.1]; exact hargs _ fun x hx=>by simpa using hlt x hx
 ·rw [List.append_nil,hs.2.2,hv]; rfl
 ·intro j t r hj hv'
  rw [hr] at hj hv'
  cases j with
  | zero =>
   simp [Value.resultList] at hj hv'
   subst hj; subst hv'
   simp [Value.okWide,ht,Cell.okWide,Cell.ok]
  | succ j=>simp at hj
 ·refine ⟨.lit (.bool true)::ds,[],p,⟨[]++p,[],trodAll_append (hargs _ (fun _ _=>rfl)) (hres _ _ _),by rw [hv]; rfl,by simp,fun b off hx=>?_,fun h=>by cases h⟩,fun x hx _=>hx⟩
  have hlt':=hlt _ hx
  rw [World.frozen?_of_block (hb.block b hlt')]
  exact hfz b off hx
end
theorem below_of_frm {g':Gh} {W W':World} (h:Frm (g0 W) W g' W'):Below W.heap.size W W':=⟨h.os,h.tape,h.output,h.size,fun k hk=>(h.old k hk rfl).1⟩
end AM
end Go.Proofs.Ytimfbnojmdnlnaa
end
