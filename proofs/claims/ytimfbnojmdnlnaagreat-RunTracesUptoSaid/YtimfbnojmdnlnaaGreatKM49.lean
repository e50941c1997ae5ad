/- The reference's Fits; The reference's done: the block that appends a row made in place; The reference's done; The reference's done. -/
import Derived.Test.YtimfbnojmdnlnaaGreatKM48
import Derived.Test.YtimfbnojmdnlnaaGreatKM35
set_option linter.all false
set_option maxRecDepth 100000
section
namespace Go.Proofs.YtimfbnojmdnlnaaGreat
namespace AM
namespace Wp
def rrow (r:List Int):Bool:=r.all fun n=>decide (n=wrapV n)
def rfitP (q:Mem×Int):Bool:=decide ((q.1.row.length:Int)=q.2)&&rrow q.1.row
def rfitV (mem:List Mem) (cells:List Int):Bool:=decide (mem.length=cells.length)&&(mem.zip cells).all rfitP
theorem rfits_ok {b bs:Bool} {mem:List Mem} {cells:List Int} (hl:mem.length≤LIM) (hr:∀ m∈mem,m.row.length≤LIM) :
  Sp theEnv 100 [.slice (nk b) (mem.map encMem), .slice (nk bs) (cells.map encI)] (.bool (rfitV mem cells)):=by
 refine Sp.fn rfl rfl rfl sx sy fun S=>?_; simp only [a100,c100,go_sem,simprocAttr]
 rw [Run_if]
 simp only [go_sem,simprocAttr]
 by_cases hab:mem.length=cells.length
 ·simp only [hab,go_sem,simprocAttr,rfitV,decide_true,Bool.true_and]
  have hz:(mem.zip cells).length=mem.length:=by rw [List.length_zip]; omega
  refine Run_all (mem.zip cells) rfitP (fun S'=>S'=⟨[],none⟩::S) [1,14] (by rw [hz]; exact Nat.le_trans hl (by decide)) sx (by simp only [go_sem,simprocAttr,hz,hab]) rfl rfl rfl sx rfl ?_ ?_
  ·rintro k F _ q hq hqm rfl hi hkept hno
   simp only [go_sem,simprocAttr] at hkept
   obtain ⟨h1,h2⟩:=List.getElem?_zip_eq_some.1 hq
   have hl1:=hr q.1 (List.mem_of_getElem? h1)
   simp only [go_sem,simprocAttr,hkept,hi,iaO_map h1,iaO_map h2]
   rw [Run_if]
   simp only [go_sem,simprocAttr]
   split
   ·rename_i hne
    intro _
    exact (hno (by simp only [rfitP,hne,Bool.false_and])).symm
   ·rename_i he
    refine Run_all q.1.row (fun n=>decide (n=wrapV n)) (fun S'=>S'=⟨[],none⟩::S) [1,14,16,28] (Nat.le_trans hl1 (by decide)) sx sx rfl rfl rfl (by simp only [go_sem,simprocAttr,hkept,hi]) rfl ?_ ?_
    ·rintro k2 F2 _ n hn hnm rfl hi2 hkept2 hno2
     simp only [go_sem,simprocAttr,hkept,hi] at hkept2
     simp only [go_sem,simprocAttr,hkept2,hi2,iaO_map hn,(rwrap_ok _).call,Run_if]
     split
     ·rename_i h9
      intro _
      exact (hno (by simp only [rfitP,rrow,hno2 h9,Bool.and_false])).symm
     ·rename_i h9
      simpa using h9
    ·rintro F2 _ hall2 rfl hkept2
     simp only [go_sem,simprocAttr,hkept,hi] at hkept2
     simp only [go_sem,simprocAttr,hkept2]
     have he':(q.1.row.length:Int)=q.2:=by simpa using he
     simp only [rfitP,rrow,hall2,he',decide_true,Bool.and_self]
  ·rintro F _ hall rfl hkept
   simp only [go_sem,simprocAttr] at hkept
   simp only [go_sem,simprocAttr,hall]
 ·have hab':¬ ((mem.length:Int)=(cells.length:Int)):=by omega
  simp [hab,hab',rfitV,go_sem,simprocAttr]
theorem wrapV_in (n:Int):decide (n=wrapV n)=!outI n:=by
 rw [← wrapV_eq]
 unfold outI
 rw [IntKind.wrap_i32,IntKind.wrap_i64]
 by_cases h:n < -2147483648∨2147483648≤n
 ·have h1:¬ n=(n % 4294967296+if n % 4294967296 < 2147483648 then 0 else -4294967296):=by split<;>omega
  rcases h with h | h<;>simp [h]<;>omega
 ·have h1:¬ n < -2147483648:=by omega
  have h2:¬ 2147483648≤n:=by omega
  simp [h1,h2]; omega
theorem rrow_is (r:List Int):rrow r=!decide (0≤idxF outI 0 r):=by
 rw [idxF_any,List.not_any_eq_all_not]
 exact all_congr fun n _=>wrapV_in n
theorem fit_same (mem:List Mem) (sh:List Shape):rfitV mem (sh.map (·.cells))=fitV mem sh:=by
 unfold rfitV fitV
 rw [List.length_map,List.zip_map_right,List.all_map]
 congr 1
 refine all_congr fun q _=>?_
 simp only [Function.comp,rfitP,fitP,rrow_is,Prod.map,id]
end Wp
end AM
end Go.Proofs.YtimfbnojmdnlnaaGreat
end
section
namespace Go.Proofs.YtimfbnojmdnlnaaGreat
namespace AM
namespace Wp
section
variable {E:Env} {F F1:Fr} {S S1 S0:St} {Q:Ex→Fr→St→Prop} {os:List AOper} {bs:List Blk} {ks:List KI} {cE:CE} {D:Option (Nat×Nat×Option Nat)} {B:List (List V)}
theorem chnK_mk {o:AOper} {ws:List (Nat×V)} (h1:isMk o=true) (h:mkEff o F S=some (ws,S1,none)):chnK S0 (o::os) F S=chnK S0 os (puts ws F) S1:=by
 simp only [chnK,h1,if_true,h]
theorem chnK_kill {o:AOper} {ws:List (Nat×V)} {l i:Nat} (h1:isMk o=true) (h:mkEff o F S=some (ws,S1,some (l,i))):chnK S0 (o::os) F S=some (l,i,none):=by
 simp only [chnK,h1,if_true,h]
theorem fe_ld {d l i p:Nat} {x:Opd} {cs:List V} {v:V} (hx:evO F x=.ptr l i p) (hb:getBox S l i=some cs) (hv:cs[p]?=some v) (ho:isOwn v=false) (hs:strip v=v):freeEff (fun _ _ _=>none) ⟨some d, .ld true 1 false x,none⟩ F S=some [(d,v)]:=by
 have hlt:=(List.getElem?_eq_some_iff.1 hv).1
 have hcut:cutL cs p 1=some [v]:=by
  unfold cutL
  rw [if_pos (by omega), ← List.getElem_cons_drop hlt,(List.getElem?_eq_some_iff.1 hv).2]; rfl
 have hval:valOp (fun _ _ _=>none) F S (.ld false 1 false x)=some (.ret v):=by
  simp only [valOp,hx,hb,Option.bind_some,hcut,List.map_cons,List.map_nil,hs,ofCells]
  rfl
 simp only [freeEff,wanted,hx,hb,Option.bind_some,hv,hval]
 split
 ·rename_i e xs h
  simp only [Option.some.injEq] at h
  subst h
  cases ho
 ·rfl
theorem chnK_ld {d l i p:Nat} {x:Opd} {cs:List V} {v:V} (hx:evO F x=.ptr l i p) (hb:getBox S0 l i=some cs) (hb':getBox S l i=some cs) (hv:cs[p]?=some v) (ho:isOwn v=false) (hs:strip v=v):chnK S0 (⟨some d, .ld true 1 false x,none⟩::os) F S=chnK S0 os (put F d v) S:=by
 have h1:ownAt S (.ptr l i p)=none:=by
  simp only [ownAt,hb',Option.bind_some,hv]
  split
  ·rename_i e xs h
   simp only [Option.some.injEq] at h
   subst h
   cases ho
  ·rfl
 simp only [chnK,isMk,Bool.false_eq_true,if_false,hx,h1,fe_ld hx hb hv ho hs,puts]
theorem ce_ld {d l i p:Nat} {x:Opd} {cs:List V} {v:V} {C:Option (St×St)} (hD:noTake D=true) (hx:evO F x=.ptr l i p) (hb:getBox S0 l i=some cs) (hv:cs[p]?=some v) (ho:isOwn v=false) (hs:strip v=v) (ht:tame v=true):chnEff cE C D S0 ⟨some d, .ld true 1 false x,none⟩ F S=some ([(d,v)],S):=by
 have h3:isTk D ⟨some d, .ld true 1 false x,none⟩ F=false:=by
  match D,hD with
  | none,_=>rfl
  | some (_,_,none),_=>rfl
 unfold chnEff
 rw [if_neg (by simp [isMk]),if_neg (by simp [isCall]),if_neg (by simp [h3]),fe_ld hx hb hv ho hs]
 simp [ht]
theorem ce_mk {o:AOper} {ws:List (Nat×V)} {k:Option (Nat×Nat)} (hD:noTake D=true) (h1:isMk o=true) (h:mkEff o F S=some (ws,S1,k)) (hk:okKill D k=true):chnEff cE none D S0 o F S=some (ws,S1):=by
 unfold chnEff
 rw [if_pos h1,if_pos ⟨hD,rfl⟩,h]
 simp [hk]
theorem flat_ints (r:List Int):(r.map encI).flatten=ints r:=ints_flat r
theorem lowL_ints (n:Nat) (r:List Int):lowL n (ints r)=true:=by
 induction r with
 | nil=>rfl
 | cons y r ih=>simpa [ints,lowL,low] using ih
theorem mk50 {r:List Int} {k:SK} (h48:F 48=.slice (.own 3) []) (h49:F 49=.slice k (r.map encI)) (hl:r.length≤1000000) :
  mkEff ⟨some 50, .appr 3 1 8 (.t 48) (.t 49) none,none⟩ F [⟨B,none⟩]=some ([(48, .slice .shut []),(50, .bsl 0 (blen B) 0 r.length 1 3)],[⟨B++[ints r],none⟩],none):=by
 have h1:srcRows [⟨B,none⟩] 1 (.slice k (r.map encI))=some (r.map encI):=by simp only [srcRows,lens_I,if_true]
 simp only [mkEff,evO,h48,h49,h1]
 rw [if_pos ⟨rfl,by decide,by simp; omega,by simp; omega,rfl⟩]
 have h2:lvOf F [⟨B,none⟩] none=some 0:=rfl
 rw [h2,Option.bind_some,flat_ints,if_pos ⟨lowL_ints _ r,noOwn_ints r⟩]
 simp [unownW,h48,strip,outs,lenAt,blen,addBox]
theorem mk51 {i n:Nat} (h50:F 50=.bsl 0 i 0 n 1 3):mkEff ⟨some 51, .rowr 27 1 [(.t 50)],none⟩ F [⟨B,none⟩]=some ([(51, .bsl 0 (blen B) 0 1 1 27)],[⟨B++[[.bsl 0 i 0 n 1 3]],none⟩],none):=by
 simp [mkEff,rowsB,evO,h50,strip,cellsOf,isCell,lowL,low,outs,blen]
theorem src51 {i:Nat} {w:V} (hg:bget B i=some [w]) (hw:strip w=w):srcRows [⟨B,none⟩] 1 (.bsl 0 i 0 1 1 27)=some [[w]]:=by
 have h1:getBox [⟨B,none⟩] 0 i=some [w]:=hg
 simp only [srcRows,h1]
 simp [cutL,hw,chunk]
theorem mk52 {i j n:Nat} (h47:F 47=.slice .nil []) (h51:F 51=.bsl 0 i 0 1 1 27) (hg:bget B i=some [.bsl 0 j 0 n 1 3]) :
  mkEff ⟨some 52, .appr 27 1 24 (.t 47) (.t 51) none,none⟩ F [⟨B,none⟩]=some ([(47, .slice .nil []),(52, .bsl 0 (blen B) 0 1 1 27)],[⟨B++[[.bsl 0 j 0 n 1 3]],none⟩],none):=by
 simp only [mkEff,evO,h47,h51,src51 hg rfl]
 rw [if_pos ⟨rfl,by decide,by simp,by simp,rfl⟩]
 have h2:lvOf F [⟨B,none⟩] none=some 0:=rfl
 rw [h2]
 simp [lowL,low,noOwn,unownW,h47,strip,outs,lenAt,blen,addBox]
theorem mk52k {i j n m c:Nat} {cs:List V} (h47:F 47=.bsl 0 m 0 c 1 27) (h51:F 51=.bsl 0 i 0 1 1 27) (hg:bget B i=some [.bsl 0 j 0 n 1 3]) (hc:bget B m=some cs) (hl:cs.length=c) (ho:noOwn cs=true) (hcl:c≤1000000) :
  mkEff ⟨some 52, .appr 27 1 24 (.t 47) (.t 51) none,none⟩ F [⟨B,none⟩]=some ([(52, .bsl 0 (blen B) 0 (c+1) 1 27)],[⟨bset B m dead++[cs++[.bsl 0 j 0 n 1 3]],none⟩],some (0,m)):=by
 have h1:getBox [⟨B,none⟩] 0 m=some cs:=hc
 simp only [mkEff,evO,h47,h51,src51 hg rfl]
 rw [if_pos (by simp; omega),h1]
 have h2:cutL cs 0 (c*1)=some cs:=by subst hl; simp [cutL]
 rw [Option.bind_some,h2,Option.bind_some,if_pos ⟨ho,by simp [lowL,low],by simp [noOwn]⟩]
 simp [outs,lenAt,blen,addBox,setBox,bset]
def blk64:List AOper:=[⟨some 43, .mv false (.t 13),none⟩,⟨some 44, .mv false (.t 13),none⟩,⟨some 45, .nc (.t 44),none⟩,⟨some 46, .fa 4 (.t 45),none⟩,⟨some 47, .ld true 1 false (.t 46),none⟩,⟨some 48, .row 3 1 [],none⟩,⟨some 49, .mv false (.t 15),none⟩,⟨some 50, .appr 3 1 8 (.t 48) (.t 49) none,none⟩,⟨some 51, .rowr 27 1 [(.t 50)],none⟩,⟨some 52, .appr 27 1 24 (.t 47) (.t 51) none,none⟩]
def fr64 (F:Fr) (mi:Nat) (mv:V) (sl:V):Fr:=put (put (put (put (put (put (put F 43 (.ptr 0 mi 0)) 44 (.ptr 0 mi 0)) 45 (.ptr 0 mi 0)) 46 (.ptr 0 mi 4)) 47 mv) 48 (.slice (.own 3) [])) 49 sl
theorem blk64_run {mi:Nat} {cells:List V} {mv:V} {mb:Bool} {r:List Int} {D:Option (Nat×Nat×Option Nat)} {F1:Fr} {B3:List (List V)} (h13:F 13=.ptr 0 mi 0) (h15:F 15=.slice (nk mb) (r.map encI)) (hb:bget B mi=some cells) (hc:cells[4]?=some mv) (ho:isOwn mv=false) (hs:strip mv=mv) (ht:tame mv=true) (hr:r.length≤1000000)
  (hD:noTake D=true) (hS0:getBox (without [⟨B,none⟩] D) 0 mi=some cells)
  (hK:chnK [⟨B,none⟩] [⟨some 52, .appr 27 1 24 (.t 47) (.t 51) none,none⟩] (put (put (put (fr64 F mi mv (.slice (nk mb) (r.map encI))) 48 (.slice .shut [])) 50 (.bsl 0 (blen B) 0 r.length 1 3)) 51 (.bsl 0 (blen B+1) 0 1 1 27)) [⟨B++[ints r]++[[.bsl 0 (blen B) 0 r.length 1 3]],none⟩]=D)
  (hL:∀ cE,chnL cE none D (without [⟨B,none⟩] D) [⟨some 52, .appr 27 1 24 (.t 47) (.t 51) none,none⟩] (put (put (put (fr64 F mi mv (.slice (nk mb) (r.map encI))) 48 (.slice .shut [])) 50 (.bsl 0 (blen B) 0 r.length 1 3)) 51 (.bsl 0 (blen B+1) 0 1 1 27)) [⟨B++[ints r]++[[.bsl 0 (blen B) 0 r.length 1 3]],none⟩]=some (F1,[⟨B3,none⟩]))
  (k:Wk E (.s bs) ks F1 [⟨B3,none⟩] Q):Wk E (.s (.chn blk64::bs)) ks F [⟨B,none⟩] Q:=by
 refine Wk_chn ⟨0,fun j _=>?_⟩ k
 have v0:∀ S,valOp (fun _ _ _=>none) F S (.mv false (.t 13))=some (.ret (.ptr 0 mi 0)):=fun S=>by simp [valOp,evO,h13,cp,strip]
 have v1:∀ S,valOp (fun _ _ _=>none) (put F 43 (.ptr 0 mi 0)) S (.mv false (.t 13))=some (.ret (.ptr 0 mi 0)):=fun S=>by simp [valOp,evO,put,h13,cp,strip]
 have v2:∀ S,valOp (fun _ _ _=>none) (put (put F 43 (.ptr 0 mi 0)) 44 (.ptr 0 mi 0)) S (.nc (.t 44))=some (.ret (.ptr 0 mi 0)):=fun S=>by simp [valOp,evO,put]
 have v3:∀ S,valOp (fun _ _ _=>none) (put (put (put F 43 (.ptr 0 mi 0)) 44 (.ptr 0 mi 0)) 45 (.ptr 0 mi 0)) S (.fa 4 (.t 45))=some (.ret (.ptr 0 mi 4)):=fun S=>by simp [valOp,evO,put]
 have e4:evO (put (put (put (put F 43 (.ptr 0 mi 0)) 44 (.ptr 0 mi 0)) 45 (.ptr 0 mi 0)) 46 (.ptr 0 mi 4)) (.t 46)=.ptr 0 mi 4:=by simp [evO,put]
 have v5:∀ S,valOp (fun _ _ _=>none) (put (put (put (put (put F 43 (.ptr 0 mi 0)) 44 (.ptr 0 mi 0)) 45 (.ptr 0 mi 0)) 46 (.ptr 0 mi 4)) 47 mv) S (.row 3 1 [])=some (.ret (.slice (.own 3) [])):=fun S=>by simp [valOp,rows]
 have v6:∀ S,valOp (fun _ _ _=>none) (put (put (put (put (put (put F 43 (.ptr 0 mi 0)) 44 (.ptr 0 mi 0)) 45 (.ptr 0 mi 0)) 46 (.ptr 0 mi 4)) 47 mv) 48 (.slice (.own 3) [])) S (.mv false (.t 15))=some (.ret (.slice (nk mb) (r.map encI))):=fun S=>by
  have:cp (.slice (nk mb) (r.map encI))=some (.slice (nk mb) (r.map encI)):=by cases mb<;>rfl
  simp [valOp,evO,put,h15,this]
 have m50:=mk50 (F:=fr64 F mi mv (.slice (nk mb) (r.map encI))) (B:=B) (r:=r) (k:=nk mb) (by simp [fr64,put]) (by simp [fr64,put]) hr
 have m51:=mk51 (F:=put (put (fr64 F mi mv (.slice (nk mb) (r.map encI))) 48 (.slice .shut [])) 50 (.bsl 0 (blen B) 0 r.length 1 3)) (B:=B++[ints r]) (i:=blen B) (n:=r.length) (by simp [put])
 have e1:blen (B++[ints r])=blen B+1:=by simp [blen]
 rw [e1] at m51
 have hb':getBox [⟨B,none⟩] 0 mi=some cells:=hb
 have htn:tame (.slice (nk mb) (r.map encI))=true:=by cases mb<;>rfl
 have hDD:chnK [⟨B,none⟩] blk64 F [⟨B,none⟩]=D:=by
  unfold blk64
  rw [chnK_go rfl (v0 _),chnK_go rfl (v1 _),chnK_go rfl (v2 _),chnK_go rfl (v3 _),chnK_ld e4 hb' hb' hc ho hs,chnK_go rfl (v5 _),chnK_go rfl (v6 _)]
  refine (chnK_mk (S:=[⟨B,none⟩]) rfl m50).trans ?_
  refine (chnK_mk (S:=[⟨B++[ints r],none⟩]) rfl m51).trans ?_
  exact hK
 unfold chnB
 rw [hDD]
 have hC:(if blk64.all (fun o=>!isMk o)=true then some (([⟨B,none⟩]:St),taken [⟨B,none⟩] D) else none)=none:=rfl
 rw [hC]
 unfold blk64
 refine chnL_go (ce_val rfl (v0 _) rfl) (chnL_go (ce_val rfl (v1 _) rfl) (chnL_go (ce_val rfl (v2 _) rfl) (chnL_go (ce_val rfl (v3 _) rfl) (chnL_go (ce_ld hD e4 hS0 hc ho hs ht) (chnL_go (ce_val rfl (v5 _) rfl) (chnL_go (ce_val rfl (v6 _) htn) ?_))))))
 refine chnL_go (ce_mk hD rfl m50 rfl) ?_
 refine chnL_go (ce_mk hD rfl m51 rfl) ?_
 exact hL _
end
end Wp
end AM
end Go.Proofs.YtimfbnojmdnlnaaGreat
end
section
namespace Go.Proofs.YtimfbnojmdnlnaaGreat
namespace AM
namespace Wp
theorem RowsM.mb0 {B:List (List V)} {cs:List V} {mem:List Mem} {j:Nat} (h:RowsM B cs mem) (hj:B[j]?=some cs):MB [⟨B,none⟩] (.bsl 0 j 0 mem.length 1 27) (mem.map (·.row)):=by
 refine .inr ⟨j,cs,by rw [List.length_map],?_,by rw [List.length_map]; exact h.1,fun k r hr=>?_,h.2.2⟩
 ·rw [getBox_one]; simp only [bget,hj,dz_def h.undef]
 ·rw [List.getElem?_map,Option.map_eq_some_iff] at hr
  obtain ⟨m,hm,rfl⟩:=hr
  rcases h.2.1 k m hm with h1 | ⟨i,h1,h2⟩
  ·exact .inl h1
  ·refine .inr ⟨i,h1,?_⟩
   rw [getBox_one]; simp only [bget,h2]; exact dz_ints _
structure Cpy (p:Prg) (sh:List Shape) (bz:Bool) (mem:List Mem) (k:Nat) (mv:V) (B:List (List V)):Prop where
 m:bget B 1=some (rcells ⟨p,sh,bz,mv,false,1⟩ 0 0 [] [])
 b:barest B=true
 r:∃ cs,RowsM B cs (mem.take k)∧((k=0∧mv=.slice .nil [])∨(k≠0∧∃ j,2≤j∧mv=.bsl 0 j 0 k 1 27∧B[j]?=some cs))
theorem rcells_ne {c:Rc} {st e:Int} {ins:List Ins} {evs:List Ev}:∀ r:List Int,rcells c st e ins evs≠ints r:=ne_ints (by intro n h; cases h)
section
variable {E:Env} {F:Fr} {Q:Ex→Fr→St→Prop} {bs:List Blk} {ks:List KI} {B:List (List V)}
theorem cpy_run {p:Prg} {sh:List Shape} {bz:Bool} {mem:List Mem} {k:Nat} {mv:V} {m:Mem} (hm:mem[k]?=some m) (hk:k < 1000000) (hr:m.row.length≤1000000) (h:Cpy p sh bz mem k mv B) (h13:F 13=.ptr 0 1 0) (h15:F 15=.slice (nk m.n) (m.row.map encI))
  (kk:∀ (F1:Fr) (B3:List (List V)) (mv':V),F1 43=.ptr 0 1 0→F1 52=mv'→(∀ t,t < 40→F1 t=F t)→bget B3 0=bget B 0→bget B3 1=some (rcells ⟨p,sh,bz,mv,false,1⟩ 0 0 [] [])→Cpy p sh bz mem (k+1) mv' (bset B3 1 (rcells ⟨p,sh,bz,mv',false,1⟩ 0 0 [] []))→cp mv'=some mv'∧strip mv'=mv'∧tame mv'=true∧cellsOf mv'=some [mv']∧low 1 mv'=true→Wk E (.s bs) ks F1 [⟨B3,none⟩] Q) :
  Wk E (.s (.chn blk64::bs)) ks F [⟨B,none⟩] Q:=by
 obtain ⟨hmm,hb,cs,hrows,hv⟩:=h
 have hlen:cs.length=k:=by
  have:=(List.getElem?_eq_some_iff.1 hm).1
  rw [hrows.1]; simp; omega
 have hsn:mem.take (k+1)=mem.take k++[m]:=take_snoc' hm
 have h1B:1 < B.length:=(List.getElem?_eq_some_iff.1 (dz_was hmm)).1
 have hw:bareL [V.bsl 0 (blen B) 0 m.row.length 1 3]=true:=rfl
 have hrow:=hrows.row (m:=m) (C:=[[V.bsl 0 (blen B) 0 m.row.length 1 3]])
 have e1:blen (B++[ints m.row])=blen B+1:=by simp [blen]
 have e2:blen (B++[ints m.row]++[[V.bsl 0 (blen B) 0 m.row.length 1 3]])=blen B+2:=by simp [blen]
 have hg:bget (B++[ints m.row]++[[V.bsl 0 (blen B) 0 m.row.length 1 3]]) (blen B+1)=some [V.bsl 0 (blen B) 0 m.row.length 1 3]:=by
  unfold bget
  rw [List.getElem?_append_right (by simp [blen])]
  have:blen B+1 - (B++[ints m.row]).length=0:=by simp [blen]
  rw [this]; rfl
 have hrow':RowsM (B++[ints m.row]++[[V.bsl 0 (blen B) 0 m.row.length 1 3]]) (cs++[.bsl 0 (blen B) 0 m.row.length 1 3]) (mem.take (k+1)):=by
  rw [hsn]; simpa [blen] using hrow
 rcases hv with ⟨rfl,rfl⟩ | ⟨hk0,j,hj2',rfl,hj⟩
 ·have hcs:cs=[]:=List.eq_nil_of_length_eq_zero hlen
  subst hcs
  have m52:=mk52 (F:=put (put (put (fr64 F 1 (.slice .nil []) (.slice (nk m.n) (m.row.map encI))) 48 (.slice .shut [])) 50 (.bsl 0 (blen B) 0 m.row.length 1 3)) 51 (.bsl 0 (blen B+1) 0 1 1 27)) (B:=B++[ints m.row]++[[.bsl 0 (blen B) 0 m.row.length 1 3]]) (i:=blen B+1) (j:=blen B) (n:=m.row.length) (by simp [fr64,put]) (by simp [put]) hg
  rw [e2] at m52
  have hm3:bget (B++[ints m.row]++[[V.bsl 0 (blen B) 0 m.row.length 1 3]]++[[V.bsl 0 (blen B) 0 m.row.length 1 3]]) 1=some (rcells ⟨p,sh,bz, .slice .nil [],false,1⟩ 0 0 [] []):=by
   unfold bget
   rw [List.getElem?_append_left (by simp<;>omega),List.getElem?_append_left (by simp<;>omega),List.getElem?_append_left (by omega)]
   exact hmm
  have hm0:bget (B++[ints m.row]++[[V.bsl 0 (blen B) 0 m.row.length 1 3]]++[[V.bsl 0 (blen B) 0 m.row.length 1 3]]) 0=bget B 0:=by
   unfold bget
   rw [List.getElem?_append_left (by simp<;>omega),List.getElem?_append_left (by simp<;>omega),List.getElem?_append_left (by omega)]
  refine blk64_run (D:=none) h13 h15 hmm rfl rfl rfl rfl hr rfl hmm ((chnK_mk rfl m52).trans rfl) (fun cE=>chnL_go (ce_mk rfl rfl m52 rfl) rfl) (kk _ _ (.bsl 0 (blen B+2) 0 1 1 27) (by simp [puts,put,fr64]) (by simp [puts,put,fr64]) (fun t ht=>?_) hm0 ?_ ?_ ⟨rfl,rfl,rfl,rfl,rfl⟩)
  ·simp only [puts,put,fr64]
   rw [if_neg (by omega),if_neg (by omega),if_neg (by omega),if_neg (by omega),if_neg (by omega),if_neg (by omega),if_neg (by omega),if_neg (by omega),if_neg (by omega),if_neg (by omega),if_neg (by omega),if_neg (by omega)]
  ·exact hm3
  ·refine ⟨bget_set hm3 dz_rcells,barest_set (barest_one (bareL_rcells rfl)) ?_,[.bsl 0 (blen B) 0 m.row.length 1 3],RowsM.set (hrow'.mono) (dz_was hm3) rcells_ne, .inr ⟨by omega,blen B+2,by omega,rfl,?_⟩⟩
   ·rw [barest_app,barest_app,barest_app,hb,barest_one (bareL_ints _),barest_one hw]; rfl
   ·unfold bset
    rw [List.getElem?_set_ne (by simp [blen]<;>omega),List.getElem?_append_right (by simp [blen])]
    have:blen B+2 - (B++[ints m.row]++[[V.bsl 0 (blen B) 0 m.row.length 1 3]]).length=0:=by simp [blen]
    rw [this]; rfl
 ·have hjl:=(List.getElem?_eq_some_iff.1 hj).1
  have hne:cs≠[]:=by rintro rfl; exact hk0 hlen.symm
  have hj2:(B++[ints m.row]++[[V.bsl 0 (blen B) 0 m.row.length 1 3]])[j]?=some cs:=by
   rw [List.getElem?_append_left (by simp<;>omega),List.getElem?_append_left hjl]; exact hj
  have hbg:bget (B++[ints m.row]++[[V.bsl 0 (blen B) 0 m.row.length 1 3]]) j=some cs:=by simp only [bget,hj2,dz_def hrows.undef]
  have hj1:j≠1:=by omega
  have m52:=mk52k (F:=put (put (put (fr64 F 1 (.bsl 0 j 0 k 1 27) (.slice (nk m.n) (m.row.map encI))) 48 (.slice .shut [])) 50 (.bsl 0 (blen B) 0 m.row.length 1 3)) 51 (.bsl 0 (blen B+1) 0 1 1 27)) (B:=B++[ints m.row]++[[.bsl 0 (blen B) 0 m.row.length 1 3]]) (i:=blen B+1) (j:=blen B) (n:=m.row.length) (m:=j) (c:=k) (cs:=cs) (by simp [fr64,put]) (by simp [put]) hg hbg hlen hrows.noOwn (by omega)
  rw [e2] at m52
  have hS0:getBox (without [⟨B,none⟩] (some (0,j,none))) 0 1=some (rcells ⟨p,sh,bz, .bsl 0 j 0 k 1 27,false,1⟩ 0 0 [] []):=by
   rw [without,getBox_off (by omega)]; exact hmm
  have hm3:bget (bset (B++[ints m.row]++[[V.bsl 0 (blen B) 0 m.row.length 1 3]]) j dead++[cs++[V.bsl 0 (blen B) 0 m.row.length 1 3]]) 1=some (rcells ⟨p,sh,bz, .bsl 0 j 0 k 1 27,false,1⟩ 0 0 [] []):=by
   unfold bget bset
   rw [List.getElem?_append_left (by simp<;>omega),List.getElem?_set_ne hj1,List.getElem?_append_left (by simp<;>omega),List.getElem?_append_left (by omega)]
   exact hmm
  have hm0:bget (bset (B++[ints m.row]++[[V.bsl 0 (blen B) 0 m.row.length 1 3]]) j dead++[cs++[V.bsl 0 (blen B) 0 m.row.length 1 3]]) 0=bget B 0:=by
   unfold bget bset
   rw [List.getElem?_append_left (by simp<;>omega),List.getElem?_set_ne (by omega),List.getElem?_append_left (by simp<;>omega),List.getElem?_append_left (by omega)]
  refine blk64_run (D:=some (0,j,none)) h13 h15 hmm rfl rfl rfl rfl hr rfl hS0 (chnK_kill rfl m52) (fun cE=>chnL_go (ce_mk rfl rfl m52 (by simp [okKill])) rfl) (kk _ _ (.bsl 0 (blen B+2) 0 (k+1) 1 27) (by simp [puts,put,fr64]) (by simp [puts,put,fr64]) (fun t ht=>?_) hm0 ?_ ?_ ⟨rfl,rfl,rfl,rfl,rfl⟩)
  ·simp only [puts,put,fr64]
   rw [if_neg (by omega),if_neg (by omega),if_neg (by omega),if_neg (by omega),if_neg (by omega),if_neg (by omega),if_neg (by omega),if_neg (by omega),if_neg (by omega),if_neg (by omega),if_neg (by omega)]
  ·exact hm3
  ·have hR3:RowsM (bset (B++[ints m.row]++[[V.bsl 0 (blen B) 0 m.row.length 1 3]]) j dead++[cs++[V.bsl 0 (blen B) 0 m.row.length 1 3]]) (cs++[.bsl 0 (blen B) 0 m.row.length 1 3]) (mem.take (k+1)):=(hrow'.set hj2 (hrows.ne_ints hne)).mono
   refine ⟨bget_set hm3 dz_rcells,barest_set (barest_one (bareL_rcells rfl)) ?_,_,RowsM.set hR3 (dz_was hm3) rcells_ne, .inr ⟨by omega,blen B+2,by omega,rfl,?_⟩⟩
   ·have h2:∀ {a b:List V},bareL (a++b)=(bareL a&&bareL b):=by
     intro a b
     induction a with
     | nil=>simp [bareL]
     | cons x a ih=>simp only [List.cons_append,bareL,ih,Bool.and_assoc]
    have h3:barest (bset (B++[ints m.row]++[[V.bsl 0 (blen B) 0 m.row.length 1 3]]) j dead)=true:=by
     refine barest_set rfl ?_
     rw [barest_app,barest_app,hb,barest_one (bareL_ints _),barest_one hw]; rfl
    rw [barest_app,h3,barest_one (by rw [h2,bareL_rows hrows,hw]; rfl)]; rfl
   ·unfold bset
    rw [List.getElem?_set_ne (by simp [blen]<;>omega),List.getElem?_append_right (by simp [blen])]
    have:blen B+2 - ((B++[ints m.row]++[[V.bsl 0 (blen B) 0 m.row.length 1 3]]).set j dead).length=0:=by simp [blen]
    rw [this]; rfl
end
end Wp
end AM
end Go.Proofs.YtimfbnojmdnlnaaGreat
end
section
namespace Go.Proofs.YtimfbnojmdnlnaaGreat
namespace AM
namespace Wp
def errOf:Rs→Int
 | .ok _ _=>0
 | .pan e=>e
def cOf (p:Prg) (ps:List Int) (mv:V):Rc:=⟨p,shapesOf ps p.arrays,p.arrays.isEmpty,mv,false,1⟩
def totR (p:Prg) (ps:List Int) (rows:List (List Int)):Tr:=bodyT (shapesOf ps p.arrays) p.params.length false p.body ps 0 0 rows
def DoneV (p:Prg) (ps:List Int) (mem:List Mem) (F:Fr) (B:List (List V)):Prop :=
 if askErr p ps=0 then
  (if fitV mem (shapesOf ps p.arrays)=true then
   F 8=.ptr 0 1 0∧F 9=.int .i64 (errOf (totR p ps (mem.map (·.row))).r)∧∃ mv,EndT (cOf p ps mv) (totR p ps (mem.map (·.row))) [] [] B
  else F 8=.nilp∧F 9=.int .i64 1)
 else F 8=.nilp∧F 9=.int .i64 (askErr p ps)
theorem rows_encR (ps:List Int) (ar:List Arr):(rowsOf ps ar).map encRow=(shapesOf ps ar).map fun s=>encRow s.sizes:=by
 simp [rowsOf,shapesOf,shapeOf,List.map_map,Function.comp_def]
theorem rdone_ev {p:Prg} (hp:OkPrg p) (hw:wtL (encPrg p)≤300000000) (hsm:∀ s∈p.body,SmS s) {b bm:Bool} {ps:List Int} {mem:List Mem} (hpl:ps.length≤LIM) (hm:OkMem mem) :
  EvQ theEnv c64 (args0 [.agg (encPrg p), .slice (nk b) (ps.map encI), .slice (nk bm) (mem.map encMem), .bool false]) [⟨[],none⟩] (fun e F T=>e=.ret∧∃ B,T=[⟨B,none⟩]∧DoneV p ps mem F B):=by
 refine EvQ_run ?_
 have hask:=rasked_ok hp hsm (b:=b) hpl
 rw [ask_same] at hask
 simp only [c64,go_sem,simprocAttr,hask.call,List.length_nil,Nat.zero_add]
 rw [Run_if]
 simp only [go_sem,simprocAttr,DoneV]
 by_cases he:askErr p ps=0
 ·obtain ⟨hc,hl,hin,hsh,hrng⟩:=ask_in he
  have hag:=cells_agree hc hsh
  have e0:encPrg p=[.slice (nk p.pn) (p.params.map encS), .slice (nk p.an) (p.arrays.map encArr), .slice (nk p.bn) (p.body.map encStm)]:=by simp only [encPrg,encStms_map]
  have hfits:=rfits_ok (b:=bm) (bs:=(rcOf ps p.arrays).isEmpty) (mem:=mem) (cells:=rcOf ps p.arrays) (Nat.le_trans hm.1 (by decide)) (fun m h=>Nat.le_trans (hm.2 m h).1 (by decide))
  rw [← hag.1,fit_same] at hfits
  have e8:(rowsOf ps p.arrays).isEmpty=p.arrays.isEmpty:=by simp [rowsOf]
  simp only [he,hin,rowsV,intsV,go_sem,simprocAttr,List.length_nil,e0,setAt,List.take_succ_cons,List.take_zero,List.drop_succ_cons,List.drop_zero,List.cons_append,List.nil_append,List.length_cons]
  simp only [go_sem,simprocAttr,List.length_nil, ← hag.1,hfits.call,e8,rows_encR]
  rw [Run_if]
  simp only [go_sem,simprocAttr]
  by_cases hf:fitV mem (shapesOf ps p.arrays)=true
  ·simp only [hf,go_sem,simprocAttr]
   refine Run_range mem.length [1,4,13,37] [] (fun k vs S'=>∃ (B:List (List V)) (mv:V),S'=[⟨B,none⟩]∧bget B 0=some (encPrg p)∧Cpy p (shapesOf ps p.arrays) p.arrays.isEmpty mem k mv B) (Nat.le_trans hm.1 (by decide)) sx sx rfl rfl rfl rfl sx ?_ ?_ ?_
   ·refine ⟨_, .slice .nil [],rfl,by rw [e0]; rfl,rfl,rfl,[],⟨rfl,by simp,by simp⟩, .inl ⟨rfl,rfl⟩⟩
   ·rintro k F _ hk ⟨B,mv,rfl,hb0,hcp⟩ hi hkept
    simp only [go_sem,simprocAttr] at hkept
    obtain ⟨m,hmk⟩:∃ m,mem[k]?=some m:=⟨mem[k],List.getElem?_eq_getElem hk⟩
    have hml:=hm.2 m (List.mem_of_getElem? hmk)
    simp only [go_sem,simprocAttr,hkept,hi,iaO_map hmk]
    refine cpy_run hmk (by have:=hm.1; omega) hml.1 hcp (by simp only [go_sem,simprocAttr,hkept]) sx fun F1 B3 mv' g1 g2 g3 g4 g5 g6 g7=>?_
    obtain ⟨q1,q2,q3,q4,q5⟩:=g7
    have q6:lowL 1 [mv']=true:=by simp only [lowL,q5,Bool.and_self]
    have g8:bget (bset B3 1 (rcells ⟨p,shapesOf ps p.arrays,p.arrays.isEmpty,mv',false,1⟩ 0 0 [] [])) 0=some (encPrg p):=by rw [bget_ne (by decide),g4,hb0]
    revert g6 g8
    simp only [go_sem,simprocAttr,g1,g2,g5,rcells,rcw,q1,q2,q3,q4,q5,q6]
    exact fun a b=>⟨_,mv',rfl,b,a⟩
   ·rintro F _ ⟨B,mv,rfl,hb0,hcp⟩ hkept
    simp only [go_sem,simprocAttr] at hkept
    obtain ⟨hcm,hcb,cs,hrows,hv⟩:=hcp
    rw [List.take_length] at hrows
    have hlen1:=fitV_len hf
    rw [hag.1] at hlen1
    have hfit:Fit (shapesOf ps p.arrays) (mem.map (·.row)):=fit_of hc hsh (mem:=mem.map (·.row)) (by rw [List.map_map]; exact hlen1)
    have hmv:MB [⟨B,none⟩] mv (mem.map (·.row))∧bare mv=true:=by
     rcases hv with ⟨h0,rfl⟩ | ⟨h0,j,_,rfl,hj⟩
     ·have:mem=[]:=List.eq_nil_of_length_eq_zero h0
      subst this
      exact ⟨.inl ⟨rfl,rfl⟩,rfl⟩
     ·exact ⟨hrows.mb0 hj,rfl⟩
    have hRI:RI (cOf p ps mv) 0 (mem.map (·.row)) 0 [] [] B:=⟨hcm,fun _=>⟨hmv.1,hfit⟩,hmv.2,hcb⟩
    have hrun:=prg_bodyR (c:=cOf p ps mv) hp hw hc hl rfl rfl p.bn b ps 0 0 (mem.map (·.row)) [] [] B [] rfl hRI ⟨by decide,by decide,by simp,by simp⟩
    rw [rb_nil] at hrun
    simp only [go_sem,simprocAttr,hkept,hb0]
    refine CallPQ hrun sx sx ?_
    rintro o S' ⟨B',rfl,rfl,hE⟩
    rw [rb_nil]
    have htt:totR p ps (mem.map (·.row))=bodyT (shapesOf ps p.arrays) p.params.length false p.body ps 0 0 (mem.map (·.row)):=rfl
    have hfin:∃ e,errOf (totR p ps (mem.map (·.row))).r=e∧∃ st,bget B' 1=some (rcells (cOf p ps mv) st e (totR p ps (mem.map (·.row))).i (totR p ps (mem.map (·.row))).l):=by
     have hE':EndT (cOf p ps mv) (totR p ps (mem.map (·.row))) [] [] B':=hE
     unfold EndT at hE'
     cases hr:(totR p ps (mem.map (·.row))).r with
     | ok st rows=>rw [hr] at hE'; exact ⟨0,rfl,st,hE'.m⟩
     | pan e =>
      rw [hr] at hE'
      obtain ⟨st,rows,_,hR⟩:=hE'
      exact ⟨e,rfl,st,hR.m⟩
    obtain ⟨e,he2,st,hm2⟩:=hfin
    rw [he2]
    simp only [go_sem,simprocAttr,hkept,hm2,rcells,rcw]
    exact ⟨B',rfl,mv,hE⟩
  ·simp only [hf,go_sem,simprocAttr,Bool.not_false,if_false,Bool.false_eq_true]
 ·simp only [he,go_sem,simprocAttr,if_false]
theorem rdone_is {p:Prg} (hp:OkPrg p) (hw:wtL (encPrg p)≤300000000) (hsm:∀ s∈p.body,SmS s) {b bm:Bool} {ps:List Int} {mem:List Mem} (hpl:ps.length≤LIM) (hm:OkMem mem) :
  (∃ e:Int,e≠0∧e=(if askErr p ps=0 then 1 else askErr p ps)∧(askErr p ps=0→fitV mem (shapesOf ps p.arrays)=false)∧EvC theEnv 64 [.agg (encPrg p), .slice (nk b) (ps.map encI), .slice (nk bm) (mem.map encMem), .bool false] (.tup [.nilp, .int .i64 e])) ∨
  (askErr p ps=0∧fitV mem (shapesOf ps p.arrays)=true∧∃ (B:List (List V)) (mv:V),EndT (cOf p ps mv) (totR p ps (mem.map (·.row))) [] [] B ∧
   CallIs theEnv (.fn 64) [.agg (encPrg p), .slice (nk b) (ps.map encI), .slice (nk bm) (mem.map encMem), .bool false] [] (.esc (.tup [.ptr 0 1 0, .int .i64 (errOf (totR p ps (mem.map (·.row))).r)]) B) []):=by
 obtain ⟨⟨e,F,T⟩,⟨K,h1⟩,h2,B,h3,h4⟩:=rdone_ev hp hw hsm (b:=b) (bm:=bm) hpl hm
 simp only at h1 h2 h3 h4
 subst h2 h3
 have hx:theEnv.ext 64=none:=rfl
 have hf:theEnv.fn 64=some a64:=rfl
 have main:∀ o,leave a64 (some (.ret,F,[⟨B,none⟩]))=some (o,[])→CallIs theEnv (.fn 64) [.agg (encPrg p), .slice (nk b) (ps.map encI), .slice (nk bm) (mem.map encMem), .bool false] [] o []:=by
  intro o ho
  refine ⟨K+1,fun j hj=>?_⟩
  obtain ⟨j,rfl⟩:∃ m,j=m+1:=⟨j - 1,by omega⟩
  have h:=h1 j j (by omega) (by omega)
  simp only [callN,callBody,hx,hf,List.length_cons,List.length_nil]
  have hnp:0+1+1+1+1=a64.np:=rfl
  rw [if_pos hnp]
  have hb:a64.body=c64:=rfl
  rw [hb,h,ho]
 have hes:a64.esc=true:=rfl
 unfold DoneV at h4
 by_cases he:askErr p ps=0
 ·rw [if_pos he] at h4
  by_cases hfit:fitV mem (shapesOf ps p.arrays)=true
  ·rw [if_pos hfit] at h4
   obtain ⟨f8,f9,mv,hE⟩:=h4
   refine .inr ⟨he,hfit,B,mv,hE,main _ ?_⟩
   have hr:results F [⟨B,none⟩] a64.res=some (.tup [.ptr 0 1 0, .int .i64 (errOf (totR p ps (mem.map (·.row))).r)]):=by
    show results F [⟨B,none⟩] [.t 8, .t 9]=_
    simp only [go_sem,simprocAttr,f8,f9]
   simp [leave,hr,low,lowL,hes,strip]
  ·rw [if_neg hfit] at h4
   obtain ⟨f8,f9⟩:=h4
   refine .inl ⟨1,by decide,by rw [if_pos he],fun _=>by simpa using hfit,main _ ?_⟩
   have hr:results F [⟨B,none⟩] a64.res=some (.tup [.nilp, .int .i64 1]):=by
    show results F [⟨B,none⟩] [.t 8, .t 9]=_
    simp only [go_sem,simprocAttr,f8,f9]
   simp [leave,hr,low,lowL]
 ·rw [if_neg he] at h4
  obtain ⟨f8,f9⟩:=h4
  refine .inl ⟨askErr p ps,he,by rw [if_neg he],fun h=>absurd h he,main _ ?_⟩
  have hr:results F [⟨B,none⟩] a64.res=some (.tup [.nilp, .int .i64 (askErr p ps)]):=by
   show results F [⟨B,none⟩] [.t 8, .t 9]=_
   simp only [go_sem,simprocAttr,f8,f9]
  simp [leave,hr,low,lowL]
end Wp
end AM
end Go.Proofs.YtimfbnojmdnlnaaGreat
end
