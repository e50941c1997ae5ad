/- The law RunAlike, on trees: what is compared; the memory's copy; The law RunAlike, on trees. -/
import Derived.Test.YtimfbnojmdnlnaaKM46
import Derived.Test.YtimfbnojmdnlnaaKSiV
import Derived.Test.YtimfbnojmdnlnaaKM48
import Derived.Test.YtimfbnojmdnlnaaKM35
import Derived.Test.YtimfbnojmdnlnaaKM33
set_option linter.all false
set_option maxRecDepth 100000
section
namespace Go.Proofs.Ytimfbnojmdnlnaa
namespace AM
namespace Wp
namespace Y
theorem samei_ok {s:Int} {b1 b2:Bool} {x:List Int} (hx:x.length≤1000000000):Sp theEnv 26 [.agg [.int .i64 s, .slice (nk b1) (x.map encI)], .agg [.int .i64 s, .slice (nk b2) (x.map encI)]] (.bool true):=by
 have ho:=order_ok (b1:=b1) (b2:=b2) hx (Nat.le_refl x.length)
 rw [ordI_same] at ho
 refine Sp.fn rfl rfl rfl sx sy fun S=>?_; simp only [a26,c26,go_sem,simprocAttr]
 rw [ho.call]
 simp only [go_sem,simprocAttr]
@[go_sem] theorem len_InP' (x:InP):(encInP x).length=2:=_root_.id rfl
@[go_sem] theorem len_EvP' (x:EvP):(encEvP x).length=6:=_root_.id rfl
theorem threeV {p:Prg} {ps:List Int} {mem:List Mem} (hp:OkPrg p) {v w u:V} (hv:RunV p ps mem v) (hw:TraceV p ps mem w) (hu:InstsV p ps u) :
  (∃ (b:Bool) (ms:List Mem) (st e f:Int),f≠0∧(f=e∨(f=3∧e=0))∧v=.tup [.slice (nk b) (ms.map encMem), .int .i64 st, .int .i64 e]∧w=.tup [.slice .nil [], .int .i64 f]) ∨
  ∃ (b c d:Bool) (ms:List Mem) (es:List EvP) (is:List InP) (st:Int),es.length≤4096∧(∀ m∈es,m.m.x.length≤1000)∧is.length≤4096∧Rep (mem.map (·.row)) (es.map EvP.toE) (ms.map (·.row))∧wrI (es.map EvP.toE)=is.map InP.toI∧(ms.map (·.row)).map List.length=(mem.map (·.row)).map List.length ∧
   v=.tup [.slice (nk b) (ms.map encMem), .int .i64 st, .int .i64 0]∧w=.tup [.slice (nk c) (es.map encEvP), .int .i64 0]∧u=.tup [.slice (nk d) (is.map encInP), .int .i64 0]:=by
 unfold RunV at hv
 unfold TraceV at hw
 unfold InstsV at hu
 by_cases he:askErr p ps=0
 ·rw [if_pos he] at hv hw hu
  obtain ⟨hc,hl,_,hsh,hr⟩:=ask_in he
  by_cases hf:fitV mem (shapesOf ps p.arrays)=true
  ·rw [if_pos hf] at hv hw
   have hagc:=cells_agree hc hsh
   have hfit:Fit (shapesOf ps p.arrays) (mem.map (·.row)):=by
    have h1:=fitV_len hf
    rw [hagc.1] at h1
    exact fit_of hc hsh (mem:=mem.map (·.row)) (by rw [List.map_map]; exact h1)
   have hg:=good_prg hc hl hfit
   have hbv:(wetT p ps (mem.map (·.row))).r=bodyV (shapesOf ps p.arrays) p.body ps 0 (mem.map (·.row)):=bodyT_r hp hc hl hr 0 0 _
   have herr:=errT_body (shapesOf ps p.arrays) ps.length false p.body ps 0 0 (mem.map (·.row))
   have hwt:bodyT (shapesOf ps p.arrays) ps.length false p.body ps 0 0 (mem.map (·.row))=wetT p ps (mem.map (·.row)):=rfl
   rw [hwt] at hg herr
   rw [← hbv] at hv
   have hlen:∀ st rows,(wetT p ps (mem.map (·.row))).r=.ok st rows→rows.map List.length=(mem.map (·.row)).map List.length:=fun st rows h=>by
    rw [hbv] at h
    exact len_body h
   revert hv hw hg herr hlen
   generalize wetT p ps (mem.map (·.row))=t
   intro hv hw hg herr hlen
   cases hr:t.r with
   | pan e =>
    rw [hr] at hv hw herr
    have he0:e≠0:=by rcases herr with rfl | rfl<;>decide
    exact .inl ⟨true,[],0,e,e,he0, .inl rfl,hv,hw⟩
   | ok st rows =>
    obtain ⟨_,g1,g2,g3,g4⟩:=hg st rows hr
    rw [hr] at hv hw
    simp only at hv hw
    obtain ⟨b,ms,hms,rfl⟩:=hv
    by_cases h9:t.l.length≤4096
    ·rw [if_pos h9] at hw
     obtain ⟨c,es,hes,hex,rfl⟩:=hw
     rw [g3] at hu
     simp only at hu
     have h8:(dryT p ps).i.length≤4096:=by
      rw [g4, ← g2]
      unfold wrI
      rw [List.length_map]
      exact Nat.le_trans (List.length_filter_le _ _) h9
     rw [if_pos h8] at hu
     obtain ⟨d,is,his,hix,rfl⟩:=hu
     have e1:=congrArg List.length hes
     have e2:=congrArg List.length his
     rw [List.length_map] at e1 e2
     refine .inr ⟨b,c,d,ms,es,is,st,by omega,hex,by omega,by rw [hes,hms]; exact g1,by rw [hes,his,g2,g4],by rw [hms]; exact hlen _ _ hr,rfl,rfl,rfl⟩
    ·rw [if_neg h9] at hw
     exact .inl ⟨b,ms,st,0,3,by decide, .inr ⟨rfl,rfl⟩,rfl,hw⟩
  ·rw [if_neg hf] at hv hw
   exact .inl ⟨true,[],0,1,1,by decide, .inl rfl,hv,hw⟩
 ·rw [if_neg he] at hv hw
  exact .inl ⟨true,[],0,_,_,he, .inl rfl,hv,hw⟩
theorem lowL_is (n:Nat):∀ r:List Int,lowL n (ints r)=true
 | []=>rfl
 | y::r=>by
  have h:=lowL_is n r
  simp only [ints,List.map_cons,lowL,low,Bool.true_and] at h ⊢
  exact h
section
variable {E:Env} {ks:List KI} {F:Fr} {Q:Ex→Fr→St→Prop} {bs:List Blk} {d:Option Nat} {B:List (List V)}
theorem ApprE {x y:Opd} {k:SK} {r:List Int} (hx:evO F x=.slice (.own 3) []) (hy:evO F y=.slice k (r.map encI)) (hl:r.length≤1000000) :
  Wk E (.s (.seq ⟨d, .appr 3 1 8 x y none,none⟩::bs)) ks F [⟨B,none⟩] Q=Wk E (.s bs) ks (putO (unown F x) d (.bsl 0 (blen B) 0 r.length 1 3)) [⟨badd B (ints r),none⟩] Q:=by
 have h1:srcRows [⟨B,none⟩] 1 (.slice k (r.map encI))=some (r.map encI):=by simp only [srcRows,lens_I,if_true]
 have h2:lenAt [⟨B,none⟩] 0=blen B:=rfl
 have h3:addBox [⟨B,none⟩] 0 (ints r)=[⟨badd B (ints r),none⟩]:=rfl
 have h4:lvOf F [⟨B,none⟩] none=some 0:=rfl
 show apprK 3 1 8 (evO F x) (srcRows [⟨B,none⟩] 1 (evO F y)) (lvOf F [⟨B,none⟩] none) d F (unown F x) [⟨B,none⟩] (fun F S=>Wk E (.s bs) ks F S Q)=_
 rw [hx,hy,h1,h4]
 simp only [apprK,ints_flat,List.length_map,h2,h3]
 apply propext
 constructor
 ·rintro ⟨_,_,_,h⟩
  exact h
 ·intro h
  exact ⟨⟨rfl,by decide,by omega,by omega⟩,lowL_is _ r,noOwn_ints r,h⟩
end
theorem RowsM.mb1 {B:List (List V)} {cs:List V} {mem:List Mem} {j:Nat} (h:RowsM B cs mem) (hj:B[j]?=some cs):MB [⟨B,none⟩] (.bsl 0 j 0 mem.length 1 35) (mem.map (·.row)):=by
 refine .inr ⟨j,cs,by rw [List.length_map],?_,by rw [List.length_map]; exact h.1,fun k r hr=>?_,h.2.2⟩
 ·rw [getBox_one]; simp only [bget,hj,dz_def h.undef]
 ·rw [List.getElem?_map,Option.map_eq_some_iff] at hr
  obtain ⟨m,hm,rfl⟩:=hr
  rcases h.2.1 k m hm with h1 | ⟨i,h1,h2⟩
  ·exact .inl h1
  ·refine .inr ⟨i,h1,?_⟩
   rw [getBox_one]; simp only [bget,h2]; exact dz_ints _
end Y
end Wp
end AM
end Go.Proofs.Ytimfbnojmdnlnaa
end
section
namespace Go.Proofs.Ytimfbnojmdnlnaa
namespace AM
namespace Wp
namespace Y
theorem alikelaw_ok {p:Prg} (hp:OkPrg p) (hw:wtL (encPrg p)≤300000000) (b bm:Bool) (ps:List Int) (mem:List Mem) (hz:b=true→ps=[]) (hpl:ps.length≤LIM) (hl:ps.length+mem.length+memLen mem≤1000000000000) (hmz:∀ m∈mem,m.n=true→m.row=[]) :
  EvC theEnv 7 [.agg (encPrg p), .slice (nk b) (ps.map encI), .slice (nk bm) (mem.map encMem)] (.bool true):=by
 have fin:CallQ theEnv (.fn 7) [.agg (encPrg p), .slice (nk b) (ps.map encI), .slice (nk bm) (mem.map encMem)] [] (fun o S'=>o=.ret (.bool true)∧S'=[])→EvC theEnv 7 [.agg (encPrg p), .slice (nk b) (ps.map encI), .slice (nk bm) (mem.map encMem)] (.bool true):=by
  rintro ⟨o,S',h1,rfl,rfl⟩
  exact h1
 refine fin ?_
 refine CallQ.fnZ rfl rfl rfl rfl ?_
 simp only [a7,c7,go_sem,simprocAttr,List.length_nil]
 rw [(few12_ok hp b bm ps mem hl).call]
 simp only [go_sem,simprocAttr]
 rw [Run_if]
 cases hfw:(few p 1000&&decide (ps.length+mem.length+memLen mem≤10000)) with
 | false =>
  simp only [hfw,go_sem,simprocAttr,List.length_nil]
  rw [awake12_c]
  simp only [go_sem,simprocAttr,List.length_nil]
  rw [FinZR_low sx]
  exact ⟨rfl,rfl⟩
 | true =>
  simp only [hfw,go_sem,simprocAttr,List.length_nil]
  have hmd:OkMem mem:=⟨by simp at hfw; omega,fun m hm=>⟨by have:=memLen_mem hm; simp at hfw; omega,hmz m hm⟩⟩
  obtain ⟨v,hv,hRv⟩:=run_ok hp (b:=b) (bm:=bm) (mem:=mem) hz hpl hmd (fun st rows=>err_body _ _ _ _ _)
  obtain ⟨w,hw2,hRw⟩:=trace_ok hp hw (b:=b) (bm:=bm) (mem:=mem) hz hpl hmd
  obtain ⟨u,hu,hRu⟩:=insts_ok hp hw (b:=b) hz hpl
  rcases threeV hp hRv hRw hRu with ⟨b1,ms,st,e,f,hf0,hfe,rfl,rfl⟩ | ⟨b1,b2,b3,ms,es,is,st,hel,hex,hil,hrep,hwr,hml,rfl,rfl,rfl⟩
  ·simp only [go_sem,simprocAttr,List.length_nil,evc12_call hv sx (fun n=>by simp only [go_sem,simprocAttr]),evc12_call hw2 sx (fun n=>by simp only [go_sem,simprocAttr]),Run_if,hf0]
   rcases hfe with rfl | ⟨rfl,rfl⟩
   ·simp only [go_sem,simprocAttr,List.length_nil,hf0,awake12_g,awake12_c]
    rw [FinZR_low sx]
    exact ⟨rfl,rfl⟩
   ·simp only [go_sem,simprocAttr,List.length_nil,awake12_g,awake12_c]
    rw [FinZR_low sx]
    exact ⟨rfl,rfl⟩
  ·simp only [go_sem,simprocAttr,List.length_nil,evc12_call hv sx (fun n=>by simp only [go_sem,simprocAttr]),evc12_call hw2 sx (fun n=>by simp only [go_sem,simprocAttr])]
   refine Run_range mem.length [1,3,7,10,61] [12] (fun k vs S'=>∃ (B:List (List V)) (cs:List V),S'=[⟨B,none⟩]∧bget B 0=some (encPrg p)∧RowsM B cs (mem.take k)∧((k=0∧vs=[.slice .nil []])∨(k≠0∧∃ j,0 < j∧vs=[.bsl 0 j 0 k 1 35]∧B[j]?=some cs))) (Nat.le_trans hmd.1 (by decide)) sx sx rfl rfl rfl rfl sx ⟨[encPrg p],[],rfl,rfl,⟨rfl,by simp,by simp⟩, .inl ⟨rfl,by simp only [go_sem,simprocAttr]⟩⟩ ?_ ?_
   ·rintro k F _ hk ⟨B,cs,rfl,hb0,hrows,hv⟩ hi hkept
    simp only [go_sem,simprocAttr] at hkept hv
    obtain ⟨m,hmk⟩:∃ m,mem[k]?=some m:=⟨mem[k],List.getElem?_eq_getElem hk⟩
    have hmr:=hmd.2 m (List.mem_of_getElem? hmk)
    have hlen:cs.length=k:=by rw [hrows.1]; simp; omega
    have htm:tame (F 12)=true:=by
     rcases hv with ⟨_,h⟩ | ⟨_,j,_,h,_⟩<;>rw [h]<;>rfl
    have hsn:mem.take (k+1)=mem.take k++[m]:=take_snoc' hmk
    have hrow:=fun C=>hrows.row (m:=m) (C:=C)
    rw [← hsn] at hrow
    have hbl:∀ C,bget (B++C) 0=some (encPrg p):=fun C=>by
     have hlt:=bget_lt hb0
     unfold bget at hb0 ⊢
     rw [List.getElem?_append_left hlt]; exact hb0
    simp only [go_sem,simprocAttr,hkept,hi,iaO_map hmk,htm]
    rw [ApprE (B:=B) (r:=m.row) (k:=nk m.n) sx sx hmr.1]
    simp only [go_sem,simprocAttr,List.length_nil]
    rw [Rowr1 (R:=[]) (w:=.bsl 0 (blen B) 0 m.row.length 1 3) sx rfl]
    simp only [go_sem,simprocAttr,List.length_nil]
    have hg:bget (B++[ints m.row,[V.bsl 0 (blen B) 0 m.row.length 1 3]]) (blen B+1)=some [V.bsl 0 (blen B) 0 m.row.length 1 3]:=by simp only [go_sem,simprocAttr]
    rcases hv with ⟨rfl,hv⟩ | ⟨hk0,j,hj0,hv,hj⟩
    ·have hcs:cs=[]:=List.eq_nil_of_length_eq_zero (by omega)
     subst hcs
     rw [Appr0 (R:=[]) (i:=blen B+1) (w:=.bsl 0 (blen B) 0 m.row.length 1 3) (by simp only [go_sem,simprocAttr,hv]) (by simp only [go_sem,simprocAttr,List.length_nil]) hg rfl rfl rfl (by decide)]
     simp only [go_sem,simprocAttr,hv,List.length_nil]
     refine ⟨_,_,rfl,hbl _,hrow [[V.bsl 0 (blen B) 0 m.row.length 1 3],[V.bsl 0 (blen B) 0 m.row.length 1 3]], .inr ⟨_,?_,rfl,?_⟩⟩
     ·omega
     ·rw [List.getElem?_append_right (by simp [blen])]; simp [blen]
    ·have hjl:=(List.getElem?_eq_some_iff.1 hj).1
     have hj2:∀ C,(B++C)[j]?=some cs:=fun C=>by rw [List.getElem?_append_left hjl]; exact hj
     have hne:cs≠[]:=by rintro rfl; exact hk0 hlen.symm
     have hbg:bget (B++[ints m.row,[V.bsl 0 (blen B) 0 m.row.length 1 3]]) j=some cs:=by simp only [bget,hj2,dz_def hrows.undef]
     rw [Appr1 (R:=[]) (i:=blen B+1) (j:=j) (c:=k) (w:=.bsl 0 (blen B) 0 m.row.length 1 3) (cs:=cs) (by simp only [go_sem,simprocAttr,hv,List.length_nil]) (by simp only [go_sem,simprocAttr,List.length_nil]) hbg hlen hrows.noOwn hg rfl rfl rfl (by have:=hmd.1; omega) (by have:=hmd.1; omega)]
     simp only [go_sem,simprocAttr,List.length_nil]
     have hR:=((hrow [[V.bsl 0 (blen B) 0 m.row.length 1 3]]).set (X:=dead) (hj2 _) (hrows.ne_ints hne)).mono (C:=[cs++[V.bsl 0 (blen B) 0 m.row.length 1 3]])
     have hsl:(bset (B++[ints m.row,[V.bsl 0 (blen B) 0 m.row.length 1 3]]) j dead).length=blen B+2:=by simp [bset,blen]
     refine ⟨_,_,rfl,?_,hR, .inr ⟨_,?_,rfl,?_⟩⟩
     ·have h0:bget (bset (B++[ints m.row,[V.bsl 0 (blen B) 0 m.row.length 1 3]]) j dead) 0=some (encPrg p):=by
       rw [bget_ne (by omega)]; exact hbl _
      have hlt:=bget_lt h0
      unfold bget at h0 ⊢
      rw [List.getElem?_append_left hlt]; exact h0
     ·omega
     ·rw [List.getElem?_append_right (by omega),hsl,Nat.sub_self]; rfl
   ·rintro F _ ⟨B,cs,rfl,hb0,hrows,hv⟩ hkept
    simp only [go_sem,simprocAttr] at hkept hv
    rw [List.take_length] at hrows
    have hmv:∃ mv,F 12=mv∧MB [⟨B,none⟩] mv (mem.map (·.row)):=by
     rcases hv with ⟨h0,hvv⟩ | ⟨_,j,_,hvv,hj⟩
     ·have:mem=[]:=List.eq_nil_of_length_eq_zero h0
      subst this
      exact ⟨_,hvv, .inl ⟨rfl,rfl⟩⟩
     ·exact ⟨_,hvv,RowsM.mb1 hrows hj⟩
    obtain ⟨mv,hf12,hmb⟩:=hmv
    have htm:=(hmb.s (U:=[]) (B1:=[])).tm
    have hst:=(hmb.s (U:=[]) (B1:=[])).st
    simp only [go_sem,simprocAttr,hkept,hb0,List.length_nil]
    rw [evc12_call hu sx (fun n=>by simp only [go_sem,simprocAttr])]
    simp only [go_sem,simprocAttr,hkept,List.length_nil]
    refine Run_range es.length [7,12,15,16,80] [17] (fun k vs S'=>∃ (B:List (List V)) (rows:List (List Int)),S'=[⟨B,none⟩]∧MB [⟨B,none⟩] mv rows∧Rep rows ((es.drop k).map EvP.toE) (ms.map fun q:Mem=>q.row)∧vs=[.int .i64 ((wrI ((es.take k).map EvP.toE)).length:Int)]) (by omega) sx sx rfl rfl rfl rfl (by simp only [go_sem,simprocAttr,hkept,hf12,htm,hst]) ⟨B,_,rfl,hmb,hrep,by simp only [go_sem,simprocAttr]; rfl⟩ ?_ ?_
    ·rintro k F' _ hk ⟨B,rows,rfl,hmb,hrep,hv17⟩ hi hkept'
     simp only [go_sem,simprocAttr,hkept,hf12] at hkept' hv17
     obtain ⟨e,he⟩:∃ e,es[k]?=some e:=⟨es[k],List.getElem?_eq_getElem hk⟩
     have hdr:=drop_at he
     rw [hdr,List.map_cons] at hrep
     obtain ⟨⟨h0a,h0c,row,y,hra,hrc,hpv⟩,hrep2⟩:=hrep
     have hex1:=hex e (List.mem_of_getElem? he)
     have htk:wrI ((es.take (k+1)).map EvP.toE)=wrI ((es.take k).map EvP.toE)++wrI [e.toE]:=by
      rw [take_snoc' he,List.map_append,wrI_app]; rfl
     have hwsp:is.map InP.toI=wrI ((es.take k).map EvP.toE)++(wrI [e.toE]++wrI ((es.drop (k+1)).map EvP.toE)):=by
      rw [← hwr, ← wrI_app, ← wrI_app]
      congr 1
      have h1:es=es.take k++e::es.drop (k+1):=by rw [← hdr,List.take_append_drop]
      conv=>lhs; rw [h1]
      simp
     have hdz:dz (some (encEvP e))=some (encEvP e):=dz_def fun c hc=>by
      simp only [encEvP,List.mem_cons,List.not_mem_nil,or_false] at hc
      rcases hc with rfl | rfl | rfl | rfl | rfl | rfl<;>rfl
     have hmb2:MB [⟨B++[encEvP e],none⟩] mv rows:=by
      have hap:∀ {i:Nat} {w:List V},bget B i=some w→bget (B++[encEvP e]) i=some w:=fun {i w} h=>by
       have hlt:=bget_lt h
       unfold bget at h ⊢
       rw [List.getElem?_append_left hlt]; exact h
      exact MB.keep hmb (fun om n cs _ h _=>hap h) fun i r h=>hap h
     obtain ⟨om,i,w1,w2,w3,w4,w5⟩:=hmb2.wr e.val hra hrc
     have hla:=(List.getElem?_eq_some_iff.1 hra).1
     have hlc:=(List.getElem?_eq_some_iff.1 hrc).1
     have ha:e.arr=((e.arr.toNat:Nat):Int):=by have:0≤e.arr:=h0a; omega
     have hc:e.cell=((e.cell.toNat:Nat):Int):=by have:0≤e.cell:=h0c; omega
     have a1:¬ e.arr < 0:=by have:0≤e.arr:=h0a; omega
     have a2:¬ e.cell < 0:=by have:0≤e.cell:=h0c; omega
     have a3:¬ (rows.length:Int)≤e.arr:=by have:=hla; simp only [EvP.toE] at this; omega
     have a4:¬ (row.length:Int)≤e.cell:=by have:=hlc; simp only [EvP.toE] at this; omega
     have c6:cutV (encEvP e) 0 6 true=some (.agg (encEvP e)):=by
      simp only [encEvP]
      cases e.m.b<;>rfl
     simp only [EvP.toE] at w1 w2 w3 w4
     rw [← ha] at w1
     rw [← hc] at w3
     have hms:(encEvP e).map strip=encEvP e:=by
      simp only [encEvP]
      cases e.m.b<;>rfl
     have hlo:lowL 1 (encEvP e)=true:=by
      simp only [encEvP]
      cases e.m.b<;>rfl
     have f0:cutV (encEvP e) 0 2 true=some (.agg [.int .i64 e.m.stm, .slice (nk e.m.b) (e.m.x.map encI)]):=by
      simp only [encEvP]
      cases e.m.b<;>rfl
     have f2:cutV (encEvP e) 2 1 false=some (.int .i64 e.pos):=rfl
     have f3:cutV (encEvP e) 3 1 false=some (.int .i64 e.arr):=rfl
     have f4:cutV (encEvP e) 4 1 false=some (.int .i64 e.cell):=rfl
     have f5:cutV (encEvP e) 5 1 false=some (.int .i64 e.val):=rfl
     have hln:lenO false mv=some (.int .i64 rows.length):=by
      rcases hmb with ⟨rfl,rfl⟩ | ⟨oi,cs,rfl,_⟩<;>rfl
     simp only [getBox_one] at w2 w4
     simp only [go_sem,simprocAttr,hkept',hi,hv17,iaO_map he,c6,hdz,hms,hlo,f0,f2,f3,f4,f5,hln,a1,a2,a3,a4,htm,hst,hmb.cp.1,w1,w2,w3,w4]
     have hrd:cutV (ints row) e.cell.toNat 1 false=some (.int .i64 y):=cut_ints hrc
     rw [Run_if]
     simp only [go_sem,simprocAttr]
     by_cases hpo:0 < e.pos
     ·have hy:y=e.val:=hpv hpo
      have hn:nextM rows e.toE=rows:=if_pos hpo
      have hw0:wrI [e.toE]=[]:=by
       have:¬ e.pos≤0:=by omega
       simp [wrI,EvP.toE,this]
      rw [hn] at hrep2
      rw [hw0,List.append_nil] at htk
      subst hy
      simp only [hpo,go_sem,simprocAttr,hkept',hdz,f3,f4,f5,htm,hst,hmb.cp.1,w1,w2,w3,w4,hrd]
      exact ⟨_,rows,rfl,hmb2,hrep2,by rw [htk]; exact hv17⟩
     ·have hn:nextM rows e.toE=writeV rows e.arr.toNat e.cell.toNat e.val:=if_neg hpo
      have hw1:wrI [e.toE]=[e.m.toI]:=by
       have:e.pos≤0:=by omega
       simp [wrI,EvP.toE,this]
      rw [hn] at hrep2
      rw [hw1] at htk hwsp
      obtain ⟨m',hm',hmi⟩:∃ m',is[(wrI ((es.take k).map EvP.toE)).length]?=some m'∧m'.toI=e.m.toI:=by
       have h1:(is.map InP.toI)[(wrI ((es.take k).map EvP.toE)).length]?=some e.m.toI:=by
        rw [hwsp,List.getElem?_append_right (Nat.le_refl _),Nat.sub_self]; rfl
       rw [List.getElem?_map,Option.map_eq_some_iff] at h1
       exact h1
      have hlk:=(List.getElem?_eq_some_iff.1 hm').1
      have b1':¬ (is.length:Int)≤((wrI ((es.take k).map EvP.toE)).length:Int):=by omega
      have hst1:∀ y,setAt (ints row) e.cell.toNat [.int .i64 y]=ints (row.set e.cell.toNat y):=fun y=>ints_setAt hlc
      have hle:e.cell.toNat+1≤(ints row).length:=by rw [ints_len]; exact hlc
      have hbe:bget (B++[encEvP e]) (blen B)=some (encEvP e):=by
       simp only [bget,blen,List.getElem?_append_right (Nat.le_refl _),Nat.sub_self]
       exact hdz
      have hib:blen B≠i:=by
       rintro rfl
       rw [hbe] at w4
       obtain ⟨_,n,h⟩:=ints_1 (Option.some.inj w4)
       cases h
      have hbb:∀ v,bget (bset (B++[encEvP e]) i v) (blen B)=some (encEvP e):=fun v=>by rw [bget_ne hib]; exact hbe
      have g0:cutV (encInP m') 0 2 true=some (.agg [.int .i64 e.m.stm, .slice (nk m'.b) (e.m.x.map encI)]):=by
       have h1:m'.stm=e.m.stm:=congrArg Ins.stm hmi
       have h2:m'.x=e.m.x:=congrArg Ins.x hmi
       simp only [encInP,h1,h2]
       cases m'.b<;>rfl
      have hsame:=samei_ok (s:=e.m.stm) (b1:=m'.b) (b2:=e.m.b) (x:=e.m.x) (by omega)
      have hkw:IntKind.i64.wrap (((wrI ((es.take k).map EvP.toE)).length:Int)+1)=((wrI ((es.take k).map EvP.toE)).length:Int)+1:=wrap64 (by omega) (by omega)
      simp only [hpo,go_sem,simprocAttr,hkept',hv17,hdz,hbb,f0,f3,f4,f5,htm,hst,hmb.cp.1,w1,w2,w3,w4,hst1,hle,b1',iaO_map hm',g0]
      rw [hsame.call]
      simp only [go_sem,simprocAttr,hkept',hv17,hkw]
      simp only [setBox_one] at w5
      exact ⟨_,_,rfl,w5,hrep2,by rw [htk,List.length_append]; rfl⟩
    ·rintro F' _ ⟨B,rows,rfl,hmb,hrep,hv17⟩ hkept'
     simp only [go_sem,simprocAttr,hkept,hf12] at hkept' hv17
     rw [List.drop_length] at hrep
     rw [List.take_length] at hv17
     have hrw:(ms.map fun q:Mem=>q.row)=rows:=hrep
     have hkl:((wrI (es.map EvP.toE)).length:Int)=is.length:=by rw [hwr,List.length_map]
     obtain ⟨bz,ns,hns,hz1⟩:=frz_MB (k:=1) hmb
     have hnl:∀ x∈ns,x.row.length≤1000000:=fun x hx=>by
      have h1:x.row.length∈(ns.map fun q:Mem=>q.row).map List.length:=List.mem_map_of_mem (List.mem_map_of_mem (f:=fun q:Mem=>q.row) hx)
      rw [hns, ← hrw,hml] at h1
      obtain ⟨r,hr,hrl⟩:=List.mem_map.1 h1
      obtain ⟨q,hq,rfl⟩:=List.mem_map.1 hr
      rw [← hrl]
      exact (hmd.2 q hq).1
     have hnn:ns.length=mem.length:=by
      have h1:(ns.map fun q:Mem=>q.row).map List.length=(mem.map fun q:Mem=>q.row).map List.length:=by rw [hns, ← hrw]; exact hml
      simpa using congrArg List.length h1
     have hsame:=samemem_ok (b1:=bz) (b2:=b1) (a:=ns) (b:=ms) (by have:=hmd.1; omega) (fun x hx=>by have:=hnl x hx; omega)
     rw [memEq_rows (by rw [hns, ← hrw])] at hsame
     simp only [go_sem,simprocAttr,hkept',hv17,htm,hst,hmb.cp.1,List.length_nil]
     have hfs:AM.frz [⟨B,none⟩] 0 4 (.slice (nk b1) (ms.map encMem))=some (.slice (nk b1) (ms.map encMem)):=by cases b1<;>rfl
     rw [Callw_sp hsame (by simp only [go_sem,simprocAttr,List.mapM_cons,List.mapM_nil,hz1,hfs]; rfl) rfl]
     simp only [go_sem,simprocAttr,hkept',hv17,hkl,awake12_g,awake12_c,List.length_nil]
     rw [FinZR_low sx]
     exact ⟨rfl,rfl⟩
end Y
end Wp
end AM
end Go.Proofs.Ytimfbnojmdnlnaa
end
