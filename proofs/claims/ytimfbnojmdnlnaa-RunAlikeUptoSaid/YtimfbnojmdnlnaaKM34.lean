/- run.begun; run.begun; run.Run. -/
import Derived.Test.YtimfbnojmdnlnaaKM33
set_option linter.all false
set_option maxRecDepth 100000
section
namespace Go.Proofs.Ytimfbnojmdnlnaa
namespace AM
namespace Wp
def RowsM (B:List (List V)) (cs:List V) (mem:List Mem):Prop :=
 cs.length=mem.length∧(∀ (j:Nat) (m:Mem),mem[j]?=some m→(m.row=[]∧cs[j]?=some (.slice .nil []))∨∃ i:Nat,cs[j]?=some (.bsl 0 i 0 m.row.length 1 3)∧B[i]?=some (ints m.row)) ∧
  ∀ (j j' i n n':Nat),cs[j]?=some (.bsl 0 i 0 n 1 3)→cs[j']?=some (.bsl 0 i 0 n' 1 3)→j=j'
theorem RowsM.mono {B C:List (List V)} {cs:List V} {mem:List Mem} (h:RowsM B cs mem):RowsM (B++C) cs mem:=by
 refine ⟨h.1,fun j m hm=>?_,h.2.2⟩
 rcases h.2.1 j m hm with h1 | ⟨i,h1,h2⟩
 ·exact .inl h1
 ·exact .inr ⟨i,h1,by rw [List.getElem?_append_left (List.getElem?_eq_some_iff.1 h2).1]; exact h2⟩
theorem RowsM.set {B:List (List V)} {cs ds X:List V} {j:Nat} {mem:List Mem} (h:RowsM B cs mem) (hj:B[j]?=some ds) (hd:∀ r:List Int,ds≠ints r):RowsM (B.set j X) cs mem:=by
 refine ⟨h.1,fun k m hm=>?_,h.2.2⟩
 rcases h.2.1 k m hm with h1 | ⟨i,h1,h2⟩
 ·exact .inl h1
 ·refine .inr ⟨i,h1,?_⟩
  rw [List.getElem?_set_ne,h2]
  rintro rfl
  rw [hj] at h2
  exact hd _ (Option.some.inj h2)
theorem RowsM.lt {B:List (List V)} {cs:List V} {mem:List Mem} (h:RowsM B cs mem) {j i n:Nat} (hc:cs[j]?=some (.bsl 0 i 0 n 1 3)):i < B.length:=by
 have hj:=(List.getElem?_eq_some_iff.1 hc).1
 have hm:mem[j]?=some (mem[j]'(by rw [← h.1]; exact hj)):=List.getElem?_eq_getElem _
 rcases h.2.1 j _ hm with ⟨_,h1⟩ | ⟨i',h1,h2⟩
 ·rw [hc] at h1; cases h1
 ·rw [hc] at h1
  cases h1
  exact (List.getElem?_eq_some_iff.1 h2).1
theorem RowsM.nilrow {B:List (List V)} {cs:List V} {mem:List Mem} {m:Mem} (h:RowsM B cs mem) (hm:m.row=[]):RowsM B (cs++[.slice .nil []]) (mem++[m]):=by
 refine ⟨by simp [h.1],fun j q hq=>?_,fun j j' i n n' h1 h2=>?_⟩
 ·rcases Nat.lt_or_ge j mem.length with hj | hj
  ·rw [List.getElem?_append_left hj] at hq
   rw [List.getElem?_append_left (by rw [h.1]; exact hj)]
   exact h.2.1 j q hq
  ·rw [List.getElem?_append_right hj] at hq
   have hj0:j - mem.length=0:=by
    have:=(List.getElem?_eq_some_iff.1 hq).1
    simp at this; omega
   rw [hj0] at hq
   simp at hq; subst hq
   refine .inl ⟨hm,?_⟩
   rw [List.getElem?_append_right (by rw [h.1]; exact hj),h.1,hj0]; rfl
 ·have lt:∀ {j i n:Nat},(cs++[V.slice .nil []])[j]?=some (.bsl 0 i 0 n 1 3)→cs[j]?=some (.bsl 0 i 0 n 1 3):=by
   intro j i n h
   rcases Nat.lt_or_ge j cs.length with hj | hj
   ·rwa [List.getElem?_append_left hj] at h
   ·rw [List.getElem?_append_right hj] at h
    have:=List.mem_of_getElem? h
    simp at this
  exact h.2.2 j j' i n n' (lt h1) (lt h2)
theorem RowsM.row {B C:List (List V)} {cs:List V} {mem:List Mem} {m:Mem} (h:RowsM B cs mem):RowsM (B++ints m.row::C) (cs++[.bsl 0 B.length 0 m.row.length 1 3]) (mem++[m]):=by
 refine ⟨by simp [h.1],fun j q hq=>?_,fun j j' i n n' h1 h2=>?_⟩
 ·rcases Nat.lt_or_ge j mem.length with hj | hj
  ·rw [List.getElem?_append_left hj] at hq
   rw [List.getElem?_append_left (by rw [h.1]; exact hj)]
   exact h.mono.2.1 j q hq
  ·rw [List.getElem?_append_right hj] at hq
   have hj0:j - mem.length=0:=by
    have:=(List.getElem?_eq_some_iff.1 hq).1
    simp at this; omega
   rw [hj0] at hq
   simp at hq; subst hq
   refine .inr ⟨B.length,?_,?_⟩
   ·rw [List.getElem?_append_right (by rw [h.1]; exact hj),h.1,hj0]; rfl
   ·rw [List.getElem?_append_right (Nat.le_refl _),Nat.sub_self]; rfl
 ·have lt:∀ {j i n:Nat},(cs++[V.bsl 0 B.length 0 m.row.length 1 3])[j]?=some (.bsl 0 i 0 n 1 3)→cs[j]?=some (.bsl 0 i 0 n 1 3)∧i < B.length∨j=cs.length∧i=B.length:=by
   intro j i n hj
   rcases Nat.lt_or_ge j cs.length with h1 | h1
   ·rw [List.getElem?_append_left h1] at hj
    exact .inl ⟨hj,h.lt hj⟩
   ·rw [List.getElem?_append_right h1] at hj
    have h0:=(List.getElem?_eq_some_iff.1 hj).1
    simp at h0
    have h0':j - cs.length=0:=by omega
    rw [h0'] at hj
    simp at hj
    exact .inr ⟨by omega,by omega⟩
  rcases lt h1 with ⟨a1,a2⟩ | ⟨a1,a2⟩<;>rcases lt h2 with ⟨b1,b2⟩ | ⟨b1,b2⟩
  ·exact h.2.2 j j' i n n' a1 b1
  ·omega
  ·omega
  ·omega
theorem RowsM.own {B:List (List V)} {cs:List V} {mem:List Mem} (h:RowsM B cs mem):∀ c∈cs,c=.slice .nil []∨∃ i n,c=.bsl 0 i 0 n 1 3:=by
 intro c hc
 obtain ⟨j,hj⟩:=List.mem_iff_getElem?.1 hc
 have hlt:=(List.getElem?_eq_some_iff.1 hj).1
 have hm:mem[j]?=some (mem[j]'(by rw [← h.1]; exact hlt)):=List.getElem?_eq_getElem _
 rcases h.2.1 j _ hm with ⟨_,h1⟩ | ⟨i',h1,h2⟩
 ·rw [hj] at h1; exact .inl (Option.some.inj h1)
 ·rw [hj] at h1; exact .inr ⟨_,_,Option.some.inj h1⟩
theorem RowsM.noOwn {B:List (List V)} {cs:List V} {mem:List Mem} (h:RowsM B cs mem):AM.noOwn cs=true:=by
 unfold AM.noOwn
 rw [List.all_eq_true]
 intro c hc
 rcases h.own c hc with rfl | ⟨i,n,rfl⟩<;>rfl
theorem RowsM.undef {B:List (List V)} {cs:List V} {mem:List Mem} (h:RowsM B cs mem):∀ c∈cs,isUndef c=false:=by
 intro c hc
 rcases h.own c hc with rfl | ⟨i,n,rfl⟩<;>rfl
theorem RowsM.ne_ints {B:List (List V)} {cs:List V} {mem:List Mem} (h:RowsM B cs mem) (hn:cs≠[]):∀ r:List Int,cs≠ints r:=by
 cases cs with
 | nil=>exact absurd rfl hn
 | cons c cs =>
  refine Wp.ne_ints ?_
  intro n hc
  rcases h.own c (by simp) with h | ⟨i,m,h⟩<;>rw [hc] at h<;>cases h
end Wp
end AM
end Go.Proofs.Ytimfbnojmdnlnaa
end
section
namespace Go.Proofs.Ytimfbnojmdnlnaa
namespace AM
namespace Wp
@[go_sem] theorem getBox_one {B:List (List V)} {lp:Option Lp} {i:Nat}:getBox [⟨B,lp⟩] 0 i=bget B i:=_root_.id rfl
@[go_sem] theorem setBox_one {B:List (List V)} {lp:Option Lp} {i:Nat} {v:List V}:setBox [⟨B,lp⟩] 0 i v=[⟨bset B i v,lp⟩]:=_root_.id rfl
theorem barest_app:∀ {B C:List (List V)},barest (B++C)=(barest B&&barest C)
 | [],C=>by simp [barest]
 | b::B,C=>by simp only [List.cons_append,barest,barest_app,Bool.and_assoc]
theorem barest_one {b:List V} (h:bareL b=true):barest [b]=true:=by simp [barest,h]
theorem bareL_ints:∀ r:List Int,bareL (ints r)=true
 | []=>rfl
 | x::r=>by
  have:=bareL_ints r
  simp only [ints,List.map_cons,bareL,bare,Bool.true_and] at this ⊢
  exact this
theorem barest_set {X:List V} (hX:barest [X]=true):∀ {B:List (List V)} {j:Nat},barest B=true→barest (B.set j X)=true
 | [],_,_=>rfl
 | b::B,0,h=>by
  simp only [barest,Bool.and_eq_true,List.set_cons_zero,Bool.and_true] at h hX ⊢
  exact ⟨hX,h.2⟩
 | b::B,j+1,h=>by
  simp only [barest,Bool.and_eq_true,List.set_cons_succ] at h ⊢
  exact ⟨h.1,barest_set hX h.2⟩
theorem bareL_rows {B:List (List V)} {cs:List V} {mem:List Mem} (h:RowsM B cs mem):bareL cs=true:=by
 have h1:=h.own
 clear h
 induction cs with
 | nil=>rfl
 | cons c cs ih =>
  simp only [bareL,Bool.and_eq_true]
  refine ⟨?_,ih fun d hd=>h1 d (List.mem_cons_of_mem _ hd)⟩
  rcases h1 c (by simp) with rfl | ⟨i,n,rfl⟩<;>rfl
def OkMem (mem:List Mem):Prop:=mem.length≤1000000∧∀ m∈mem,m.row.length≤1000000∧(m.n=true→m.row=[])
def BegV (p:Prg) (ps:List Int) (mem:List Mem) (F:Fr) (B:List (List V)):Prop :=
 if askErr p ps=0 then
  (if fitV mem (shapesOf ps p.arrays)=true then
   F 6=.slice (nk (shapesOf ps p.arrays).isEmpty) ((shapesOf ps p.arrays).map encShape)∧F 8=.int .i64 0∧(barest B=true∧calmB B=true) ∧
    ((mem=[]∧F 7=.slice .nil [])∨(mem≠[]∧∃ j cs,F 7=.bsl 0 j 0 mem.length 1 35∧B[j]?=some cs∧RowsM B cs mem))
  else F 6=.slice .nil []∧F 7=.slice .nil []∧F 8=.int .i64 1)
 else F 6=.slice .nil []∧F 7=.slice .nil []∧F 8=.int .i64 (askErr p ps)
theorem begun_ev {p:Prg} (hp:OkPrg p) {b bm:Bool} {ps:List Int} {mem:List Mem} (hpl:ps.length≤LIM) (hm:OkMem mem) :
  EvQ theEnv c56 (args0 [.agg (encPrg p), .slice (nk b) (ps.map encI), .slice (nk bm) (mem.map encMem)]) [⟨[],none⟩] (fun e F T=>e=.ret∧∃ B,T=[⟨B,none⟩]∧BegV p ps mem F B):=by
 refine EvQ_run ?_
 simp only [c56,go_sem,simprocAttr,(asked_ok hp hpl).call,List.length_nil,Nat.zero_add]
 rw [Run_if]
 simp only [go_sem,simprocAttr,BegV]
 by_cases he:askErr p ps=0
 ·simp only [he,shapesV_0,go_sem,simprocAttr]
  rw [(fitting_ok (bs:=(shapesOf ps p.arrays).isEmpty) (Nat.le_trans hm.1 (by decide)) (fun m h=>Nat.le_trans (hm.2 m h).1 (by decide))).call]
  simp only [go_sem,simprocAttr]
  rw [Run_if]
  simp only [go_sem,simprocAttr]
  by_cases hf:fitV mem (shapesOf ps p.arrays)=true
  ·simp only [hf,go_sem,simprocAttr]
   refine Run_range mem.length [9,27] [11] (fun k vs S'=>∃ (B:List (List V)) (cs:List V),S'=[⟨B,none⟩]∧(barest B=true∧calmB B=true)∧RowsM B cs (mem.take k)∧((k=0∧vs=[.slice .nil []])∨(k≠0∧∃ j,vs=[.bsl 0 j 0 k 1 35]∧B[j]?=some cs))) (Nat.le_trans hm.1 (by decide)) sx sx rfl rfl rfl rfl sx ⟨[encPrg p],[],rfl,⟨by simp [barest,encPrg,bareL,bare],by simp only [go_sem,simprocAttr]⟩,⟨rfl,by simp,by simp⟩, .inl ⟨rfl,by simp only [go_sem,simprocAttr]⟩⟩ ?_ ?_
   ·rintro k F _ hk ⟨B,cs,rfl,hbar,hrows,hv⟩ hi hkept
    simp only [go_sem,simprocAttr] at hkept hv
    obtain ⟨m,hmk⟩:∃ m,mem[k]?=some m:=⟨mem[k],List.getElem?_eq_getElem hk⟩
    have hml:=hm.2 m (List.mem_of_getElem? hmk)
    have hlen:cs.length=k:=by rw [hrows.1]; simp; omega
    have htm:tame (F 11)=true:=by
     rcases hv with ⟨_,h⟩ | ⟨_,j,h,_⟩<;>rw [h]<;>rfl
    simp only [go_sem,simprocAttr,hkept,hi,iaO_map hmk,htm]
    rw [Callr_clone (clone3_ok m.n m.row (Nat.le_trans hml.1 (by decide))) sx]
    simp only [go_sem,simprocAttr]
    have key:∃ (w:V) (B1:List (List V)),(if m.n=true then V.slice .nil [] else .bsl 0 (blen B) 0 m.row.length 1 3)=w∧(if m.n=true then B else B++[ints m.row])=B1∧strip w=w∧low 1 w=true∧cellsOf w=some [w]∧noOwn [w]=true∧bareL [w]=true∧dz (some [w])=some [w]∧(barest B1=true∧calmB B1=true∧calmC [w]=true)∧B.length≤B1.length∧(∀ (j:Nat) (u:List V),B[j]?=some u→B1[j]?=some u) ∧
      RowsM (B1++[[w]]) (cs++[w]) (mem.take k++[m]):=by
     cases hmn:m.n with
     | true =>
      exact ⟨_,_,rfl,rfl,rfl,rfl,rfl,rfl,rfl,rfl,⟨hbar.1,hbar.2,rfl⟩,Nat.le_refl _,fun _ _ h=>h,(hrows.nilrow (hml.2 hmn)).mono⟩
     | false =>
      refine ⟨_,_,rfl,rfl,rfl,rfl,rfl,rfl,rfl,rfl,?_,by simp,fun j u h=>?_,?_⟩
      ·rw [if_neg (by decide),barest_app,hbar.1,barest_one (bareL_ints _)]
       exact ⟨rfl,by simp only [go_sem,simprocAttr,hbar.2,calm_ints],rfl⟩
      ·rw [if_neg (by decide),List.getElem?_append_left (List.getElem?_eq_some_iff.1 h).1]; exact h
      ·have:=hrows.row (m:=m) (C:=[[V.bsl 0 (blen B) 0 m.row.length 1 3]])
       simpa [blen] using this
    obtain ⟨w,B1,e1,e2,k1,k2,k3,k4,k5,k6,k7,k8,k9,k10⟩:=key
    rw [e1,e2]
    rw [Rowr1 (R:=[]) (w:=w) (by simp only [go_sem,simprocAttr,k1,k3]) k2]
    simp only [go_sem,simprocAttr,List.length_nil]
    have hsn:mem.take (k+1)=mem.take k++[m]:=take_snoc' hmk
    rcases hv with ⟨hk0,hv⟩ | ⟨hk0,j,hv,hj⟩
    ·subst hk0
     have hcs:cs=[]:=List.eq_nil_of_length_eq_zero hlen
     subst hcs
     rw [Appr0 (R:=[]) (i:=blen B1) (w:=w) (by simp only [go_sem,simprocAttr,hv]) (by simp only [go_sem,simprocAttr,List.length_nil]) (by simp only [go_sem,simprocAttr,k6]) k1 k2 k4 (by decide)]
     simp only [go_sem,simprocAttr,hv,List.length_nil]
     refine ⟨B1++[[w],[w]],[w],rfl,?_,?_, .inr ⟨blen B1+1,rfl,?_⟩⟩
     ·exact ⟨by rw [barest_app,k7.1]; simp [barest,k5],by simp only [go_sem,simprocAttr,k7.2.1,k7.2.2]⟩
     ·rw [hsn]
      have:=k10.mono (C:=[[w]])
      simpa using this
     ·rw [List.getElem?_append_right (by simp [blen])]; simp [blen]
    ·have hj1:=k9 j cs hj
     have hjl:=(List.getElem?_eq_some_iff.1 hj1).1
     have hj2:(B1++[[w]])[j]?=some cs:=by rw [List.getElem?_append_left hjl]; exact hj1
     have hne:cs≠[]:=by rintro rfl; exact hk0 hlen.symm
     have hbg:bget (B1++[[w]]) j=some cs:=by simp only [bget,hj2,dz_def hrows.undef]
     rw [Appr1 (R:=[]) (i:=blen B1) (j:=j) (c:=k) (w:=w) (cs:=cs) (by simp only [go_sem,simprocAttr,hv,List.length_nil]) (by simp only [go_sem,simprocAttr,List.length_nil]) hbg hlen hrows.noOwn (by simp only [go_sem,simprocAttr,k6]) k1 k2 k4 (by have:=hm.1; omega) (by have:=hm.1; omega)]
     simp only [go_sem,simprocAttr,List.length_nil]
     refine ⟨(B1++[[w]]).set j dead++[cs++[w]],cs++[w],rfl,?_,?_, .inr ⟨blen B1+1,rfl,?_⟩⟩
     ·have h1:=bareL_rows hrows
      have h2:∀ {a b:List V},bareL (a++b)=(bareL a&&bareL b):=by
       intro a b
       induction a with
       | nil=>simp [bareL]
       | cons x a ih=>simp only [List.cons_append,bareL,ih,Bool.and_assoc]
      have h3:calmC (cs++[w])=true:=by
       have hc:=hrows.own
       clear hbg hj2 hj1 hj hlen hrows k10 hne h1
       induction cs with
       | nil=>exact k7.2.2
       | cons c cs ih =>
        rw [List.cons_append,calmC_cons,ih fun d hd=>hc d (List.mem_cons_of_mem _ hd)]
        rcases hc c (by simp) with rfl | ⟨i,n,rfl⟩<;>rfl
      refine ⟨?_,?_⟩
      ·rw [barest_app,barest_set (by rfl) (by rw [barest_app,k7.1,barest_one k5]; rfl),barest_one]
       ·rfl
       ·rw [h2,h1,k5]; rfl
      ·rw [calmB_app]
       have h4:calmB ((B1++[[w]]).set j dead)=true:=calmB_set (i:=j) (v:=dead) (by simp only [go_sem,simprocAttr,k7.2.1,k7.2.2]) rfl
       simp only [go_sem,simprocAttr,h4,h3]
     ·rw [hsn]
      exact (k10.set hj2 (hrows.ne_ints hne)).mono
     ·have:((B1++[[w]]).set j dead).length=blen B1+1:=by simp [blen]
      rw [List.getElem?_append_right (by omega),this,Nat.sub_self]; rfl
   ·rintro F _ ⟨B,cs,rfl,hbar,hrows,hv⟩ hkept
    simp only [go_sem,simprocAttr] at hkept hv
    rw [List.take_length] at hrows
    rcases hv with ⟨hk0,hv⟩ | ⟨hk0,j,hv,hj⟩
    ·have hmn:mem=[]:=List.eq_nil_of_length_eq_zero hk0
     simp only [go_sem,simprocAttr,hkept,hv]
     exact ⟨B,rfl,hbar, .inl hmn⟩
    ·have hmn:¬ mem=[]:=by rintro rfl; exact hk0 rfl
     simp only [go_sem,simprocAttr,hkept,hv]
     exact ⟨B,rfl,hbar, .inr ⟨hmn,j,cs,rfl,hj,hrows⟩⟩
  ·simp only [hf,go_sem,simprocAttr,Bool.not_false,if_false,Bool.false_eq_true]
 ·rw [shapesV_n he]
  simp only [he,go_sem,simprocAttr,if_false]
end Wp
end AM
end Go.Proofs.Ytimfbnojmdnlnaa
end
section
namespace Go.Proofs.Ytimfbnojmdnlnaa
namespace AM
namespace Wp
mutual
theorem good_reloc {a b c:Nat}:∀ v:V,good (reloc a b c v)=good v
 | .undef=>rfl
 | .bool _=>rfl
 | .int _ _=>rfl
 | .str _=>rfl
 | .ptr l i o=>by simp only [reloc]; split<;>rfl
 | .nilp=>rfl
 | .look _=>rfl
 | .slice _ _=>rfl
 | .func f cs=>by simp only [reloc,good,goodL_reloc cs]
 | .nilf=>rfl
 | .ifc _ v=>by simp only [reloc,good,good_reloc v]
 | .nili=>rfl
 | .agg cs=>by simp only [reloc,good,goodL_reloc cs]
 | .tup cs=>by simp only [reloc,good,goodL_reloc cs]
 | .fresh _=>rfl
 | .mir ..=>rfl
 | .bsl l i o n m e=>by simp only [reloc]; split<;>rfl
theorem goodL_reloc {a b c:Nat}:∀ vs:List V,goodL (relocL a b c vs)=goodL vs
 | []=>rfl
 | v::vs=>by simp only [relocL,goodL,good_reloc v,goodL_reloc vs]
end
theorem relocL_map {a b c:Nat}:∀ vs:List V,relocL a b c vs=vs.map (reloc a b c)
 | []=>rfl
 | v::vs=>by simp only [relocL,List.map_cons,relocL_map vs]
theorem noOwn_reloc {a b c:Nat} (vs:List V):noOwn (relocL a b c vs)=noOwn vs:=by
 rw [relocL_map]
 simp only [noOwn,List.all_map]
 congr 1
 funext v
 cases v with
 | ptr l i o=>by_cases h:l=a<;>simp [reloc,h]
 | bsl l i o n m e=>by_cases h:l=a<;>simp [reloc,h]
 | _=>rfl
theorem calmC_reloc {a b c:Nat} (vs:List V):calmC (relocL a b c vs)=calmC vs:=by simp only [calmC,goodL_reloc,noOwn_reloc]
theorem calmB_reloc {a b c:Nat}:∀ {B:List (List V)},calmB (B.map (relocL a b c))=calmB B
 | []=>rfl
 | v::B=>by simp only [List.map_cons,calmB_cons,calmC_reloc,calmB_reloc]
theorem ints_reloc {a b c:Nat} (r:List Int):relocL a b c (ints r)=ints r:=by
 rw [relocL_map]
 simp only [ints,List.map_map]
 rfl
theorem RowsM.mb {B:List (List V)} {cs:List V} {mem:List Mem} {j:Nat} {b:List V} (h:RowsM B cs mem) (hj:B[j]?=some cs):MB [⟨b::B.map (relocL 0 0 1),none⟩] (.bsl 0 (1+j) 0 mem.length 1 35) (mem.map (·.row)):=by
 have hu:∀ c∈relocL 0 0 1 cs,isUndef c=false:=by
  rw [relocL_map]
  intro c hc
  obtain ⟨d,hd,rfl⟩:=List.mem_map.1 hc
  rcases h.own d hd with rfl | ⟨i,n,rfl⟩<;>rfl
 refine .inr ⟨1+j,relocL 0 0 1 cs,by simp,?_,by rw [relocL_map]; simp [h.1],fun k r hr=>?_,fun k k' i n n' h1 h2=>?_⟩
 ·show dz ((b::B.map (relocL 0 0 1))[1+j]?)=_
  rw [Nat.add_comm,List.getElem?_cons_succ,List.getElem?_map,hj]
  exact dz_def hu
 ·rw [List.getElem?_map,Option.map_eq_some_iff] at hr
  obtain ⟨m,hm,rfl⟩:=hr
  rcases h.2.1 k m hm with ⟨h1,h2⟩ | ⟨i,h1,h2⟩
  ·exact .inl ⟨h1,by rw [relocL_map,List.getElem?_map,h2]; rfl⟩
  ·refine .inr ⟨1+i,by rw [relocL_map,List.getElem?_map,h1]; rfl,?_⟩
   show dz ((b::B.map (relocL 0 0 1))[1+i]?)=_
   rw [Nat.add_comm,List.getElem?_cons_succ,List.getElem?_map,h2,Option.map_some,ints_reloc]
   exact dz_ints _
 ·have back:∀ {k n:Nat},(relocL 0 0 1 cs)[k]?=some (.bsl 0 i 0 n 1 3)→∃ i',i=1+i'∧cs[k]?=some (.bsl 0 i' 0 n 1 3):=by
   intro k n hk
   rw [relocL_map,List.getElem?_map,Option.map_eq_some_iff] at hk
   obtain ⟨d,hd,he⟩:=hk
   rcases h.own d (List.mem_of_getElem? hd) with rfl | ⟨i',n',rfl⟩
   ·cases he
   ·simp only [reloc,if_true,V.bsl.injEq,true_and] at he
    obtain ⟨rfl,rfl,_⟩:=he
    exact ⟨i',rfl,hd⟩
  obtain ⟨i1,e1,c1⟩:=back h1
  obtain ⟨i2,e2,c2⟩:=back h2
  have:i1=i2:=by omega
  subst this
  exact h.2.2 k k' i1 n n' c1 c2
theorem frz_rowsM {S:St} {k:Nat}:∀ (cs:List V) (rows:List (List Int)),cs.length=rows.length →
  (∀ (j:Nat) (r:List Int),rows[j]?=some r→(r=[]∧cs[j]?=some (.slice .nil []))∨∃ i:Nat,cs[j]?=some (.bsl 0 i 0 r.length 1 3)∧getBox S 0 i=some (ints r)) →
  ∃ ms:List Mem,ms.map (·.row)=rows∧cs.mapM (AM.frz S 0 (k+2))=some (ms.map fun m=>V.slice (nk m.n) (m.row.map encI))
 | [],[],_,_=>⟨[],rfl,rfl⟩
 | c::cs,r::rows,hl,h=>by
  obtain ⟨ms,h1,h2⟩:=frz_rowsM (S:=S) (k:=k) cs rows (by simpa using hl) fun j q hq=>by
   have:=h (j+1) q (by simpa using hq)
   simpa using this
  rcases h 0 r rfl with ⟨h3,h4⟩ | ⟨i,h3,h4⟩
  ·simp at h4
   subst h4 h3
   refine ⟨⟨true,[]⟩::ms,by simp [h1],?_⟩
   rw [List.mapM_cons,h2]
   rfl
  ·simp at h3
   subst h3
   have h5:AM.frz S 0 (k+2) (.bsl 0 i 0 (r.map encI).length 1 3)=some (.slice .shut (r.map encI)):=frz_rows (Nat.le_refl _) (by rw [ints_flat]; exact h4) (by decide) (fun x hx=>by
    simp only [List.mem_map] at hx
    obtain ⟨y,_,rfl⟩:=hx
    rfl) (fun c hc=>by
    rw [ints_flat] at hc
    simp only [ints,List.mem_map] at hc
    obtain ⟨y,_,rfl⟩:=hc
    exact ⟨rfl,rfl,rfl⟩)
   rw [List.length_map] at h5
   refine ⟨⟨false,r⟩::ms,by simp [h1],?_⟩
   rw [List.mapM_cons,h5,h2]
   rfl
theorem frz_MB {S:St} {mv:V} {rows:List (List Int)} {k:Nat} (h:MB S mv rows):∃ (b:Bool) (ms:List Mem),ms.map (·.row)=rows∧AM.frz S 0 (k+3) mv=some (.slice (nk b) (ms.map encMem)):=by
 rcases h with ⟨rfl,rfl⟩ | ⟨oi,cs,rfl,h2,h3,h4,_⟩
 ·exact ⟨true,[],rfl,rfl⟩
 ·obtain ⟨ms,h5,h6⟩:=frz_rowsM (k:=k) cs rows h3 h4
  refine ⟨false,ms,h5,?_⟩
  have hc:cutL cs 0 (rows.length*1)=some cs:=by simp [cutL, ← h3]
  rw [AM.frz,if_neg (by omega)]
  split
  ·rename_i h0
   have hr:rows=[]:=List.eq_nil_of_length_eq_zero h0
   subst hr
   have:ms=[]:=by simpa using h5
   subst this
   rfl
  ·rw [h2,Option.bind_some,hc,Option.bind_some,h6,Option.bind_some]
   have hlow:∀ l:List Mem,lowL 0 (l.map fun m=>V.slice (nk m.n) (m.row.map encI))=true:=by
    intro l
    induction l with
    | nil=>rfl
    | cons m l ih=>simp only [List.map_cons,lowL,AM.low,ih,Bool.and_self]
   rw [if_pos ⟨by decide,hlow ms⟩]
   have h7:=chunk_one (ms.map fun m=>V.slice (nk m.n) (m.row.map encI))
   rw [List.length_map, ← List.length_map (f:=(·.row)),h5] at h7
   rw [h7,List.map_map]
   rfl
theorem begun_is {p:Prg} (hp:OkPrg p) {b bm:Bool} {ps:List Int} {mem:List Mem} (hpl:ps.length≤LIM) (hm:OkMem mem) :
  (∃ e:Int,e≠0∧e=(if askErr p ps=0 then 1 else askErr p ps)∧(askErr p ps=0→fitV mem (shapesOf ps p.arrays)=false)∧EvC theEnv 56 [.agg (encPrg p), .slice (nk b) (ps.map encI), .slice (nk bm) (mem.map encMem)] (.tup [.slice .nil [], .slice .nil [], .int .i64 e])) ∨
  (askErr p ps=0∧fitV mem (shapesOf ps p.arrays)=true∧mem=[]∧EvC theEnv 56 [.agg (encPrg p), .slice (nk b) (ps.map encI), .slice (nk bm) (mem.map encMem)] (.tup [.slice (nk (shapesOf ps p.arrays).isEmpty) ((shapesOf ps p.arrays).map encShape), .slice .nil [], .int .i64 0])) ∨
  (askErr p ps=0∧fitV mem (shapesOf ps p.arrays)=true∧mem≠[]∧∃ (B:List (List V)) (j:Nat) (cs:List V),barest B=true∧calmB B=true∧B[j]?=some cs∧RowsM B cs mem ∧
   CallIs theEnv (.fn 56) [.agg (encPrg p), .slice (nk b) (ps.map encI), .slice (nk bm) (mem.map encMem)] [] (.esc (.tup [.slice (nk (shapesOf ps p.arrays).isEmpty) ((shapesOf ps p.arrays).map encShape), .bsl 0 j 0 mem.length 1 35, .int .i64 0]) B) []):=by
 obtain ⟨⟨e,F,T⟩,⟨K,h1⟩,h2,B,h3,h4⟩:=begun_ev hp (b:=b) (bm:=bm) hpl hm
 simp only at h1 h2 h3 h4
 subst h2 h3
 have hx:theEnv.ext 56=none:=rfl
 have hf:theEnv.fn 56=some a56:=rfl
 have main:∀ o,leave a56 (some (.ret,F,[⟨B,none⟩]))=some (o,[])→CallIs theEnv (.fn 56) [.agg (encPrg p), .slice (nk b) (ps.map encI), .slice (nk bm) (mem.map encMem)] [] o []:=by
  intro o ho
  refine ⟨K+1,fun j hj=>?_⟩
  obtain ⟨j,rfl⟩:∃ m,j=m+1:=⟨j - 1,by omega⟩
  have h:=h1 j j (by omega) (by omega)
  simp only [callN,callBody,hx,hf,List.length_cons,List.length_nil]
  have hnp:0+1+1+1=a56.np:=rfl
  rw [if_pos hnp]
  have hb:a56.body=c56:=rfl
  rw [hb,h,ho]
 unfold BegV at h4
 by_cases he:askErr p ps=0
 ·rw [if_pos he] at h4
  by_cases hfit:fitV mem (shapesOf ps p.arrays)=true
  ·rw [if_pos hfit] at h4
   obtain ⟨f6,f8,⟨hb1,hb2⟩,h4⟩:=h4
   rcases h4 with ⟨hmn,f7⟩ | ⟨hmn,j,cs,f7,hj,hrows⟩
   ·refine .inr (.inl ⟨he,hfit,hmn,main _ ?_⟩)
    have hr:results F [⟨B,none⟩] a56.res=some (.tup [.slice (nk (shapesOf ps p.arrays).isEmpty) ((shapesOf ps p.arrays).map encShape), .slice .nil [], .int .i64 0]):=by
     show results F [⟨B,none⟩] [.t 6, .t 7, .t 8]=_
     simp only [go_sem,simprocAttr,f6,f7,f8]
    simp [leave,hr,low,lowL]
   ·refine .inr (.inr ⟨he,hfit,hmn,B,j,cs,hb1,hb2,hj,hrows,main _ ?_⟩)
    have hr:results F [⟨B,none⟩] a56.res=some (.tup [.slice (nk (shapesOf ps p.arrays).isEmpty) ((shapesOf ps p.arrays).map encShape), .bsl 0 j 0 mem.length 1 35, .int .i64 0]):=by
     show results F [⟨B,none⟩] [.t 6, .t 7, .t 8]=_
     simp only [go_sem,simprocAttr,f6,f7,f8]
    have hes:a56.esc=true:=rfl
    simp [leave,hr,low,lowL,hes,strip]
  ·rw [if_neg hfit] at h4
   obtain ⟨f6,f7,f8⟩:=h4
   refine .inl ⟨1,by decide,by rw [if_pos he],fun _=>by simpa using hfit,main _ ?_⟩
   have hr:results F [⟨B,none⟩] a56.res=some (.tup [.slice .nil [], .slice .nil [], .int .i64 1]):=by
    show results F [⟨B,none⟩] [.t 6, .t 7, .t 8]=_
    simp only [go_sem,simprocAttr,f6,f7,f8]
   simp [leave,hr,low,lowL]
 ·rw [if_neg he] at h4
  obtain ⟨f6,f7,f8⟩:=h4
  refine .inl ⟨askErr p ps,he,by rw [if_neg he],fun h=>absurd h he,main _ ?_⟩
  have hr:results F [⟨B,none⟩] a56.res=some (.tup [.slice .nil [], .slice .nil [], .int .i64 (askErr p ps)]):=by
   show results F [⟨B,none⟩] [.t 6, .t 7, .t 8]=_
   simp only [go_sem,simprocAttr,f6,f7,f8]
  simp [leave,hr,low,lowL]
end Wp
end AM
end Go.Proofs.Ytimfbnojmdnlnaa
end
