/- run.Trace: what the closure writes; assignments; run.Insts: assignments of a blind machine; run.Insts; run.Trace. -/
import Derived.Test.YtimfbnojmdnlnaaKM44
import Derived.Test.YtimfbnojmdnlnaaKM45
import Derived.Test.YtimfbnojmdnlnaaKM35
set_option linter.all false
set_option maxRecDepth 100000
section
namespace Go.Proofs.Ytimfbnojmdnlnaa
namespace AM
namespace Wp
namespace Y
variable {U:St} {T:Lev} {B1:List (List V)} {B0:St} {L:Nat} {c:Mc} {x:List Int} {st:Int} {rows:List (List Int)} {ins:List Ins} {evs:List Ev}
structure EvP where
 m:InP
 pos:Int
 arr:Int
 cell:Int
 val:Int
def EvP.toE (e:EvP):Ev:=⟨e.m.toI,e.pos,e.arr,e.cell,e.val⟩
def encEvP (e:EvP):List V:=[.int .i64 e.m.stm, .slice (nk e.m.b) (e.m.x.map encI), .int .i64 e.pos, .int .i64 e.arr, .int .i64 e.cell, .int .i64 e.val]
theorem noOwn_EvP (m:EvP):noOwn (encEvP m)=true:=by
 rcases m with ⟨⟨s,b,x⟩,_,_,_,_⟩
 cases b<;>rfl
theorem noOwn_EvPs:∀ ms:List EvP,noOwn (ms.map encEvP).flatten=true
 | []=>rfl
 | m::ms=>by
  rw [List.map_cons,List.flatten_cons]
  exact noOwn_app (noOwn_EvP m) (noOwn_EvPs ms)
theorem goodL_EvP (m:EvP):goodL (encEvP m)=true:=by simp only [encEvP,goodL,good,goodR_map fun y _=>good_I y,Bool.and_self]
theorem goodL_EvPs:∀ ms:List EvP,goodL (ms.map encEvP).flatten=true
 | []=>rfl
 | m::ms=>by
  rw [List.map_cons,List.flatten_cons,goodL_app,goodL_EvP,goodL_EvPs ms]; rfl
theorem cell_EvPs {ms:List EvP} {c:V} (hc:c∈(ms.map encEvP).flatten):(∃ n,c=.int .i64 n)∨∃ b l,c=.slice (nk b) l:=by
 obtain ⟨l,hl,h⟩:=List.mem_flatten.1 hc
 obtain ⟨m,_,rfl⟩:=List.mem_map.1 hl
 simp only [encEvP,List.mem_cons,List.not_mem_nil,or_false] at h
 rcases h with rfl | rfl | rfl | rfl | rfl | rfl<;>first | exact .inl ⟨_,rfl⟩ | exact .inr ⟨_,_,rfl⟩
theorem dz_EvPs (ms:List EvP):dz (some (ms.map encEvP).flatten)=some (ms.map encEvP).flatten:=dz_def fun c hc=>by
 rcases cell_EvPs hc with ⟨n,rfl⟩ | ⟨b,l,rfl⟩<;>rfl
theorem still_EvP (ms:List EvP):∀ c∈(ms.map encEvP).flatten,still c:=by
 intro c hc
 rcases cell_EvPs hc with ⟨n,rfl⟩ | ⟨b,l,rfl⟩
 ·exact ⟨rfl,rfl,rfl⟩
 ·cases b<;>exact ⟨rfl,rfl,rfl⟩
theorem ev1_run {B:List (List V)} {mi np:Nat} {sh mv xv uv ov:V} {dry:Bool} {oi fi:Nat} {ms:List EvP} {fl:Bool} (stm p1 p2 p3 p4:Int) (hm:bget B1 mi=some (machU sh mv np xv st dry uv)) (hx:XB 1 B1 xv x) (hnp:np≤x.length) (hxl:x.length≤1000) (hU:calmS U=true) (hc1:calmB B1=true) (hcb:calmB B=true)
  (ho:OutB 79 6 oi fi B ov (ms.map encEvP)) (hoi:bget B oi=some [ov]) (hfi:bget B fi=some [.bool fl]) (hne:oi≠fi) (hlen:ms.length≤4096) :
  CallQ theEnv (.fn 59) [.ptr 1 mi 0, .int .i64 stm, .int .i64 p1, .int .i64 p2, .int .i64 p3, .int .i64 p4, .ptr 0 oi 0, .ptr 0 fi 0] (base U B1 [⟨B,none⟩]) (fun o S'=>o=.ret (.tup [])∧∃ B':List (List V),S'=base U B1 [⟨B',none⟩]∧calmB B'=true ∧
   if ms.length=4096 then B'=bset B fi [.bool true] else ∃ b:Bool,B'=bset (outA B ov ((ms++[EvP.mk ⟨stm,b,x.drop np⟩ p1 p2 p3 p4]).map encEvP).flatten) oi [.bsl 0 (blen B) 0 (ms.length+1) 6 79]):=by
 obtain ⟨o1,o2,o3,o4,o5⟩:=ho.cp
 have hxs:XS 1 (⟨[],none⟩::base U B1 [⟨B,none⟩]) xv x:=hx.s (U:=⟨[],none⟩::U) (B0:=[⟨B,none⟩]) rfl
 obtain ⟨bx,hin⟩:=inst_run (S:=⟨[],none⟩::base U B1 [⟨B,none⟩]) stm (by rw [getBox_z1]; exact hm) hxs hnp hxl
 have hcalm:calmS (⟨[],none⟩::base U B1 [⟨B,none⟩])=true:=by
  have:calmB ([]:List (List V))=true:=rfl
  have h0:calmS [⟨B,none⟩]=true:=by simp [calmS,hcb]
  have h2:=calm_base (U:=⟨[],none⟩::U) (B1:=B1) (B0:=[⟨B,none⟩])
  rw [base_up] at h2
  rw [h2,h0,hc1]
  simp only [calmS] at hU ⊢
  simp [hU,this]
 refine CallQ.fn rfl rfl rfl ?_
 simp only [a59,c59,go_sem,simprocAttr,hoi,o1,o2,o4,List.length_map]
 rw [Run_if]
 simp only [go_sem,simprocAttr]
 split
 ·rename_i h1
  have h1':ms.length=4096:=by omega
  simp only [go_sem,simprocAttr,hfi,setAt_at0]
  exact ⟨bset B fi [.bool true],rfl,calmB_set hcb rfl,by rw [if_pos h1']⟩
 ·rename_i h1
  have h1':¬ ms.length=4096:=by omega
  simp only [go_sem,simprocAttr,hoi,o1,o2,o3,Wk_enter]
  rw [CallF hin low0_ptr rfl hcalm rfl]
  simp only [go_sem,simprocAttr,o1,o2,o3]
  rw [appr_out (ov:=ov) (rs:=ms.map encEvP) (r:=encEvP (EvP.mk ⟨stm,bx,x.drop np⟩ p1 p2 p3 p4)) (k:=.own 79) (by decide) ho sx (by simp only [go_sem,simprocAttr]; rfl) rfl sx (by simp; omega) (by decide) (by simp; omega) rfl (noOwn_EvP _) (fun q hq=>by
   obtain ⟨m,_,rfl⟩:=List.mem_map.1 hq; rfl) (noOwn_EvPs ms)]
  have e1:(ms.map encEvP++[encEvP (EvP.mk ⟨stm,bx,x.drop np⟩ p1 p2 p3 p4)]).flatten=((ms++[EvP.mk ⟨stm,bx,x.drop np⟩ p1 p2 p3 p4]).map encEvP).flatten:=by simp
  rw [e1]
  have hoA:=outA_get (v:=((ms++[EvP.mk ⟨stm,bx,x.drop np⟩ p1 p2 p3 p4]).map encEvP).flatten) ho (.inl rfl) hoi
  have hcA:calmB (outA B ov ((ms++[EvP.mk ⟨stm,bx,x.drop np⟩ p1 p2 p3 p4]).map encEvP).flatten)=true:=calm_outA hcb (by simp only [calmC,goodL_EvPs,noOwn_EvPs,Bool.and_self])
  simp only [go_sem,simprocAttr,hoA,setAt_at0,List.length_map]
  exact ⟨_,rfl,calmB_set hcA rfl,by rw [if_neg h1']; exact ⟨bx,rfl⟩⟩
theorem MB.keep {B B':List (List V)} {mv:V} (h:MB [⟨B,none⟩] mv rows) (ho:∀ (om n:Nat) (cs:List V),mv=.bsl 0 om 0 n 1 35→bget B om=some cs→(∀ d∈cs,d=.slice .nil []∨∃ i n,d=.bsl 0 i 0 n 1 3)→bget B' om=some cs) (hr:∀ (i:Nat) (r:List Int),bget B i=some (ints r)→bget B' i=some (ints r)):MB [⟨B',none⟩] mv rows:=by
 rcases h with h | ⟨oi,cs,h1,h2,h3,h4,h5⟩
 ·exact .inl h
 ·rw [getBox_one] at h2
  refine .inr ⟨oi,cs,h1,?_,h3,fun j r hr'=>?_,h5⟩
  ·rw [getBox_one]
   refine ho oi _ cs h1 h2 fun d hd=>?_
   obtain ⟨j,hj⟩:=List.mem_iff_getElem?.1 hd
   have hlt:=(List.getElem?_eq_some_iff.1 hj).1
   obtain ⟨r,hr'⟩:∃ r,rows[j]?=some r:=⟨rows[j]'(by omega),List.getElem?_eq_getElem _⟩
   rcases h4 j r hr' with ⟨_,h⟩ | ⟨i,h,_⟩
   ·rw [hj] at h; cases h; exact .inl rfl
   ·rw [hj] at h; cases h; exact .inr ⟨_,_,rfl⟩
  ·rcases h4 j r hr' with h | ⟨i,h6,h7⟩
   ·exact .inl h
   ·rw [getBox_one] at h7
    exact .inr ⟨i,h6,by rw [getBox_one]; exact hr i r h7⟩
theorem outA_else {B:List (List V)} {ov:V} {i:Nat} {v w:List V} (hn:∀ (bi o n m e:Nat),ov=.bsl 0 bi o n m e→i≠bi) (hov:∀ l bi o n m e,ov=.bsl l bi o n m e→l=0) (hg:bget B i=some w):bget (outA B ov v) i=some w:=by
 unfold outA
 refine bget_badd ?_
 split
 ·rename_i l bi o n m e
  obtain rfl:=hov _ _ _ _ _ _ rfl
  rw [bget_ne (hn _ _ _ _ _ rfl)]; exact hg
 ·exact hg
def JE (mv:V) (oi fi:Nat) (_:List Ins) (evs:List Ev) (S:St):Prop:=∃ (B:List (List V)) (ov:V) (ms:List EvP),S=[⟨B,none⟩]∧ms.map EvP.toE=evs.take 4096∧bget B oi=some [ov]∧bget B fi=some [.bool (decide (4096 < evs.length))]∧oi≠fi∧OutB 79 6 oi fi B ov (ms.map encEvP)∧(∀ m∈ms,m.m.x.length≤1000)∧(ms=[]→ov=.slice .nil [])∧∀ om n:Nat,mv=.bsl 0 om 0 n 1 35→om≠oi
theorem ints_1 {a b:V} {l:List V} {r:List Int} (h:a::b::l=ints r):(∃ n,a=.int .i64 n)∧∃ n,b=.int .i64 n:=by
 match r,h with
 | [],h=>cases h
 | [y],h=>simp [ints] at h
 | y::z::r,h =>
  simp only [ints,List.map_cons,List.cons.injEq] at h
  exact ⟨⟨_,h.1⟩,_,h.2.1⟩
theorem ev_row {m:EvP} {ms:List EvP} {r:List Int} (h:((m::ms).map encEvP).flatten=ints r):False:=by
 simp only [List.map_cons,List.flatten_cons,encEvP,List.cons_append] at h
 obtain ⟨_,n,hn⟩:=ints_1 h
 cases hn
theorem ov_row {e n oi fi:Nat} {B:List (List V)} {ov:V} {rs:List (List V)} (h:OutB e n oi fi B ov rs) {r:List Int}:[ov]≠ints r:=by
 intro h2
 match r,h2 with
 | [],h2=>cases h2
 | y::r,h2 =>
  simp only [ints,List.map_cons,List.cons.injEq] at h2
  rcases h with ⟨_,rfl⟩ | ⟨_,_,_,rfl,_⟩<;>cases h2.1
theorem fl_row {b:Bool} {r:List Int}:[.bool b]≠ints r:=by
 intro h2
 match r,h2 with
 | [],h2=>cases h2
 | y::r,h2 =>
  simp only [ints,List.map_cons,List.cons.injEq] at h2
  cases h2.1
theorem use_trace {oi fi nv:Nat} (hJ:c.J=JE c.mv oi fi) (huf:c.uf=.func (.func 59) [.ptr 0 oi 0, .ptr 0 fi 0]) (hnp:c.np≤nv) (hnv:nv≤1000):UseQ c nv:=by
 intro x st rows ins evs B1 B0 U stm p1 p2 p3 p4 hxn hU h
 subst hxn
 have hj:=h.j
 rw [hJ] at hj
 obtain ⟨B,ov,ms,rfl,hms,hoi,hfi,hne,ho,hmx,hnil,hom⟩:=hj
 have hL:c.L=1:=h.l.symm
 obtain ⟨xv,hm,hx⟩:=h.m
 have hu:=h.u
 have hv:=h.v
 rw [huf] at hu
 rw [hL] at hv hx
 have hlen:ms.length=min 4096 evs.length:=by
  have:=congrArg List.length hms
  simpa [List.length_take] using this
 have hU':calmS (⟨[],none⟩::U)=true:=by
  have:calmB ([]:List (List V))=true:=rfl
  simp only [calmS] at hU ⊢
  rw [List.all_cons,hU,this]; rfl
 have hcb:calmB B=true:=by have:=h.c0; simpa [calmS] using this
 obtain ⟨o,S',hcall,rfl,B',rfl,q1,q2⟩:=ev1_run (U:=⟨[],none⟩::U) stm p1 p2 p3 p4 hm hx hnp hnv hU' h.c1 hcb ho hoi hfi hne (by omega)
 rw [base_up] at hcall
 refine CallQ.fn rfl rfl rfl ?_
 rw [hL]
 simp only [a92,c92,go_sem,simprocAttr,hu,hv]
 rw [CallvP hcall rfl rfl]
 simp only [go_sem,simprocAttr,base_up]
 refine ⟨_,rfl,?_⟩
 have key:c.J ins (evs++[⟨⟨stm,x.drop c.np⟩,p1,p2,p3,p4⟩]) [⟨B',none⟩]∧(c.dry=false→MB [⟨B',none⟩] c.mv rows):=by
  rw [hJ]
  by_cases h9:ms.length=4096
  ·rw [if_pos h9] at q2
   subst q2
   refine ⟨⟨_,ov,ms,rfl,?_,by rw [bget_ne hne]; exact hoi,?_,hne,?_,hmx,hnil,hom⟩,fun hd=>?_⟩
   ·rw [hms,List.take_append_of_le_length (by omega)]
   ·rw [bget_set hfi rfl]
    have:4096 < evs.length+1:=by omega
    simp [this]
   ·rcases ho with h | ⟨bi,b1,b2,b3,b4⟩
    ·exact .inl h
    ·exact .inr ⟨bi,b1,b2,b3,by rw [bget_ne b2]; exact b4⟩
   ·refine MB.keep (h.r hd).1 (fun om n cs e1 e2 e3=>?_) fun i r e1=>?_
    ·rw [bget_ne,e2]
     rintro rfl
     rw [hfi] at e2
     cases e2
     rcases e3 _ (List.mem_singleton.2 rfl) with h | ⟨_,_,h⟩<;>cases h
    ·rw [bget_ne,e1]
     rintro rfl
     rw [hfi] at e1
     exact fl_row (Option.some.inj e1)
  ·rw [if_neg h9] at q2
   obtain ⟨b,rfl⟩:=q2
   have hbo:blen B≠oi:=by have:=bget_lt hoi; unfold blen; omega
   have hbf:blen B≠fi:=by have:=bget_lt hfi; unfold blen; omega
   have hoA:=outA_get (v:=((ms++[EvP.mk ⟨stm,b,x.drop c.np⟩ p1 p2 p3 p4]).map encEvP).flatten) ho (.inl rfl) hoi
   have hfA:=outA_get (v:=((ms++[EvP.mk ⟨stm,b,x.drop c.np⟩ p1 p2 p3 p4]).map encEvP).flatten) ho (.inr rfl) hfi
   have hnA:=outA_new (B:=B) (ov:=ov) (dz_EvPs (ms++[EvP.mk ⟨stm,b,x.drop c.np⟩ p1 p2 p3 p4]))
   have h8:¬ 4096 < evs.length:=by omega
   refine ⟨⟨_,_,ms++[EvP.mk ⟨stm,b,x.drop c.np⟩ p1 p2 p3 p4],rfl,?_,bget_set hoA rfl,?_,hne, .inr ⟨blen B,hbo,hbf,by simp,by rw [bget_ne hbo]; exact hnA⟩,fun m hm=>?_,by simp,hom⟩,fun hd=>?_⟩
   ·rw [List.map_append,hms,List.take_of_length_le (by omega),List.take_of_length_le (by simp; omega)]
    rfl
   ·rw [bget_ne (Ne.symm hne),hfA]
    have:¬ 4096 < (evs++[(⟨⟨stm,x.drop c.np⟩,p1,p2,p3,p4⟩:Ev)]).length:=by simp; omega
    simp only [h8,this]
   ·rcases List.mem_append.1 hm with h | h
    ·exact hmx m h
    ·rw [List.mem_singleton.1 h]
     simp only [List.length_drop]; omega
   ·have hbi:∀ (i:Nat) (w:List V),bget B i=some w→(∀ (m:EvP) (l:List EvP),w≠((m::l).map encEvP).flatten)→∀ (bi o n m e:Nat),ov=.bsl 0 bi o n m e→i≠bi:=by
     rintro i w hw hne2 bi o n m e rfl rfl
     rcases ho with ⟨_,h⟩ | ⟨bi',_,_,h,h6⟩
     ·cases h
     ·cases h
      rw [hw] at h6
      match ms,hnil,h6 with
      | [],hnil,_=>cases hnil rfl
      | m::l,_,h6=>exact hne2 m l (Option.some.inj h6)
    have hl0:∀ l bi o n m e,ov=.bsl l bi o n m e→l=0:=by
     rintro l bi o n m e rfl
     rcases ho with ⟨_,h⟩ | ⟨bi',_,_,h,h6⟩<;>cases h
     rfl
    refine MB.keep (h.r hd).1 (fun om n cs e1 e2 e3=>?_) fun i r e1=>?_
    ·rw [bget_ne (hom om n e1)]
     refine outA_else (hbi om cs e2 fun m l e4=>?_) hl0 e2
     have:V.int .i64 m.m.stm∈cs:=by rw [e4]; simp [encEvP]
     rcases e3 _ this with h | ⟨_,_,h⟩<;>cases h
    ·have hio:i≠oi:=by
      rintro rfl
      rw [hoi] at e1
      exact ov_row ho (Option.some.inj e1)
     rw [bget_ne hio]
     exact outA_else (hbi i _ e1 fun m l e4=>ev_row e4.symm) hl0 e1
 exact ⟨hL.symm ▸ rfl,h.m,h.u,h.v,fun hd=>⟨key.2 hd,(h.r hd).2⟩,h.p,h.c1,by simp [calmS,q1],h.cm,key.1,h.uk⟩
theorem wr_trace {oi fi:Nat} (hJ:c.J=JE c.mv oi fi):WrQ c:=by
 intro ins ins' evs B0 i r r' hr hi hj
 rw [hJ] at hj ⊢
 obtain ⟨B,ov,ms,rfl,hms,hoi,hfi,hne,ho,hmx,hnil,hom⟩:=hj
 rw [getBox_one] at hi
 have h1:oi≠i:=by
  rintro rfl
  rw [hoi] at hi
  exact ov_row ho (Option.some.inj hi)
 have h2:fi≠i:=by
  rintro rfl
  rw [hfi] at hi
  exact fl_row (Option.some.inj hi)
 refine ⟨_,ov,ms,setBox_one,hms,by rw [bget_ne h1]; exact hoi,by rw [bget_ne h2]; exact hfi,hne,?_,hmx,hnil,hom⟩
 rcases ho with h | ⟨bi,b1,b2,b3,b4⟩
 ·exact .inl h
 ·refine .inr ⟨bi,b1,b2,b3,?_⟩
  rw [bget_ne,b4]
  rintro rfl
  rw [b4] at hi
  match ms,hnil,hi with
  | [],hnil,_=>rw [hnil rfl] at b3; cases b3
  | m::l,_,hi=>exact ev_row (Option.some.inj hi)
end Y
end Wp
end AM
end Go.Proofs.Ytimfbnojmdnlnaa
end
section
namespace Go.Proofs.Ytimfbnojmdnlnaa
namespace AM
namespace Wp
namespace Y
variable {U:St} {T:Lev} {B1:List (List V)} {B0:St} {L:Nat} {c:Mc} {x:List Int} {st:Int} {rows:List (List Int)} {ins:List Ins} {evs:List Ev}
def JI (oi fi:Nat) (ins:List Ins) (_:List Ev) (S:St):Prop:=∃ (B:List (List V)) (ov:V) (ms:List InP),S=[⟨B,none⟩]∧ms.map InP.toI=ins.take 4096∧bget B oi=some [ov]∧bget B fi=some [.bool (decide (4096 < ins.length))]∧oi≠fi∧OutB 77 2 oi fi B ov (ms.map encInP)∧∀ m∈ms,m.x.length≤1000
theorem use_run {oi fi:Nat} (h:MI c x st rows ins evs B1 B0) (hd:c.dry=true) (hJ:c.J=JI oi fi) (huf:c.uf=.func (.func 62) [.ptr 0 oi 0, .ptr 0 fi 0]) (hnp:c.np≤x.length) (hxl:x.length≤1000) (hU:calmS U=true) (stm p1 p2 p3 p4:Int) :
  CallQ theEnv (.fn 92) [.int .i64 stm, .int .i64 p1, .int .i64 p2, .int .i64 p3, .int .i64 p4, .ptr c.L 1 0, .ptr c.L c.vi 0] (base U B1 B0) (fun o S'=>o=.ret (.tup [])∧∃ B0',S'=base U B1 B0'∧MI c x st rows (ins++[⟨stm,x.drop c.np⟩]) evs B1 B0'):=by
 have hj:=h.j
 rw [hJ] at hj
 obtain ⟨B,ov,ms,rfl,hms,hoi,hfi,hne,ho,hmx⟩:=hj
 have hL:c.L=1:=h.l.symm
 obtain ⟨xv,hm,hx⟩:=h.m
 have hu:=h.u
 have hv:=h.v
 rw [huf] at hu
 rw [hL] at hv hx
 have hlen:ms.length=min 4096 ins.length:=by
  have:=congrArg List.length hms
  simpa [List.length_take] using this
 have hU':calmS (⟨[],none⟩::U)=true:=by
  have:calmB ([]:List (List V))=true:=rfl
  simp only [calmS] at hU ⊢
  rw [List.all_cons,hU,this]; rfl
 have hcb:calmB B=true:=by have:=h.c0; simpa [calmS] using this
 obtain ⟨o,S',hcall,rfl,B',ov',ms',rfl,q1,q2,q3,q4,q5⟩:=ins1_run (U:=⟨[],none⟩::U) stm p1 p2 p3 p4 hm hx hnp hxl hU' h.c1 hcb ho hoi hfi hne (by omega)
 rw [base_up] at hcall
 refine CallQ.fn rfl rfl rfl ?_
 rw [hL]
 simp only [a92,c92,go_sem,simprocAttr,hu,hv]
 rw [CallvP hcall rfl rfl]
 simp only [go_sem,simprocAttr,base_up]
 refine ⟨_,rfl,?_⟩
 have hj':c.J (ins++[⟨stm,x.drop c.np⟩]) evs [⟨B',none⟩]:=by
  rw [hJ]
  refine ⟨B',ov',ms',rfl,?_,q2,?_,hne,q3,fun m hm=>?_⟩
  ·rw [q5,hms]
   split
   ·rename_i h9
    rw [List.take_append_of_le_length (by omega)]
   ·rename_i h9
    rw [List.take_of_length_le (by omega),List.take_of_length_le (by simp; omega)]
  ·rw [q4,List.length_append,List.length_singleton]
   congr 2
   by_cases h9:4096≤ins.length
   ·have:ms.length=4096:=by omega
    simp [this]; omega
   ·have:¬ ms.length=4096:=by omega
    simp [this]; omega
  ·have h7:m.toI∈ms.map InP.toI++[⟨stm,x.drop c.np⟩]:=by
    have h8:m.toI∈ms'.map InP.toI:=List.mem_map_of_mem hm
    rw [q5] at h8
    split at h8
    ·exact List.mem_append_left _ h8
    ·exact h8
   rcases List.mem_append.1 h7 with h8 | h8
   ·obtain ⟨m0,h9,h10⟩:=List.mem_map.1 h8
    have h11:m0.x=m.x:=congrArg Ins.x h10
    rw [← h11]; exact hmx m0 h9
   ·have h11:m.toI.x=x.drop c.np:=by rw [List.mem_singleton.1 h8]
    have h12:m.x=x.drop c.np:=h11
    rw [h12,List.length_drop]; omega
 exact ⟨hL.symm ▸ rfl,h.m,h.u,h.v,(fun hf=>by rw [hd] at hf; cases hf),h.p,h.c1,by simp [calmS,q1],h.cm,hj',h.uk⟩
theorem asg_dry {oi fi nv:Nat} {s:Stm} (hd:c.dry=true) (hJ:c.J=JI oi fi) (huf:c.uf=.func (.func 62) [.ptr 0 oi 0, .ptr 0 fi 0]) (hnp:c.np≤nv) (hnv:nv≤1000):AsgQ c nv s:=by
 intro x num st rows ins evs B1 B0 U hx hU h
 subst hx
 have hR0:=h.l
 refine CallQ.fn rfl rfl rfl ?_
 simp only [a125,c125,go_sem,simprocAttr,hR0]
 refine CallPQ (step_run (U:=⟨[encStm s],none⟩::U) h) low0_ptr rfl ?_
 rintro o S' ⟨B1',B0',rfl,hend⟩
 rw [base_up]
 by_cases h65:st=65536
 ·subst h65
  obtain ⟨rfl,hp,hpl⟩:=(hend:o=.pan (ended 3)∧PI B1'∧B0'.length=c.L∧calmS B0'=true)
  simp only [go_sem,simprocAttr,hpl]
  refine ⟨rfl,endQ_pan (e:=3) ?_ hp hpl⟩
  unfold assignT
  rw [step_pan]
 ·have hend':o=.ret (.tup [])∧MI c x (wi (st+1)) rows ins evs B1' B0':=by
   have e3:stepT st rows=⟨.ok (wi (st+1)) rows,[],[]⟩:=by simp [stepT,stepV,h65]
   rw [e3] at hend
   simpa [EndP] using hend
  obtain ⟨rfl,h'⟩:=hend'
  have hR:=h'.l
  obtain ⟨xv,hm,hx⟩:=h'.m
  unfold Mc.cells machU Mc.uv at hm
  rw [hd] at hm
  have hU':calmS (⟨[encStm s],none⟩::U)=true:=by simp only [go_sem,simprocAttr,hU]
  obtain ⟨o,S',hcall,rfl,B0'',rfl,h2⟩:=use_run (U:=⟨[encStm s],none⟩::U) h' hd hJ huf hnp hnv hU' num 0 0 0 0
  rw [base_up] at hcall
  have hR2:=h2.l
  simp only [go_sem,simprocAttr,hR,hm]
  rw [CallvP hcall rfl rfl]
  simp only [go_sem,simprocAttr,base_up,hR2]
  have e4:assignT c.sh c.np c.dry s x num st rows=⟨.ok (wi (st+1)) rows,[⟨num,x.drop c.np⟩],[]⟩:=by
   unfold assignT
   rw [step_ok h65,if_pos hd]
  rw [e4]
  exact endQ_ok rfl (by simpa using h2)
end Y
end Wp
end AM
end Go.Proofs.Ytimfbnojmdnlnaa
end
section
namespace Go.Proofs.Ytimfbnojmdnlnaa
namespace AM
namespace Wp
namespace Y
theorem errT_bind {t:Tr} {k:Int→List (List Int)→Tr} (h:ErrOk t.r) (hk:∀ st rows,ErrOk (k st rows).r):ErrOk (t.bind k).r:=by
 unfold Tr.bind
 split
 ·rename_i e he
  rw [he] at h; exact h
 ·exact hk _ _
theorem errT_asg (sh:List Shape) (np:Nat) (dry:Bool) (s:Stm) (x:List Int) (num st:Int) (rows:List (List Int)):ErrOk (assignT sh np dry s x num st rows).r:=by
 unfold assignT
 refine errT_bind (err_step st rows) fun st rows=>?_
 split
 ·trivial
 ·split
  ·exact .inr rfl
  ·split
   ·exact .inr rfl
   ·trivial
theorem errT_loop {f:Int→Int→List (List Int)→Tr} (hf:∀ v st rows,ErrOk (f v st rows).r) (step high:Int):∀ (n:Nat) (v st:Int) (rows:List (List Int)),ErrOk (loopT f step high n v st rows).r
 | 0,_,_,_=>trivial
 | n+1,v,st,rows=>by
  rw [loopT]
  split
  ·exact errT_bind (err_step _ _) fun st rows=>errT_bind (hf _ _ _) fun st rows=>errT_loop hf step high n _ _ _
  ·trivial
theorem errT_list {sh:List Shape} {np:Nat} {dry:Bool}:∀ (l:List Stm),(∀ s∈l, ∀ x f st rows,ErrOk (stmT sh np dry s x f st rows).r)→∀ x f st rows,ErrOk (bodyT sh np dry l x f st rows).r
 | [],_,_,_,_,_=>by rw [bodyT]; trivial
 | s::l,h,x,f,st,rows=>by
  rw [bodyT]
  exact errT_bind (h s (by simp) x f st rows) fun st rows=>errT_list l (fun t ht=>h t (List.mem_cons_of_mem _ ht)) x _ st rows
theorem errT_stm {sh:List Shape} {np:Nat} {dry:Bool}:∀ (s:Stm) (x:List Int) (f st:Int) (rows:List (List Int)),ErrOk (stmT sh np dry s x f st rows).r:=by
 refine Stm.ind fun s ihb ihe x f st rows=>?_
 have hb:=errT_list s.body ihb
 have he:=errT_list s.els ihe
 rw [stmT_eq]
 split
 ·split
  ·exact .inr rfl
  ·split
   ·exact .inr rfl
   ·exact errT_loop (fun v st rows=>hb _ _ st rows) _ _ _ _ st rows
 ·split
  ·split
   ·exact hb x _ st rows
   ·exact he x _ st rows
  ·exact errT_asg sh np dry s x f st rows
theorem errT_body (sh:List Shape) (np:Nat) (dry:Bool) (l:List Stm) (x:List Int) (f st:Int) (rows:List (List Int)):ErrOk (bodyT sh np dry l x f st rows).r:=errT_list l (fun s _=>errT_stm s) x f st rows
def dryT (p:Prg) (ps:List Int):Tr:=bodyT (shapesOf ps p.arrays) ps.length true p.body ps 0 0 []
def InstsV (p:Prg) (ps:List Int) (v:V):Prop :=
 if askErr p ps=0 then
  (match (dryT p ps).r with
  | .ok _ _=>if (dryT p ps).i.length≤4096 then ∃ (b:Bool) (ms:List InP),ms.map InP.toI=(dryT p ps).i∧(∀ m∈ms,m.x.length≤1000)∧v=.tup [.slice (nk b) (ms.map encInP), .int .i64 0] else v=.tup [.slice .nil [], .int .i64 3]
  | .pan e=>v=.tup [.slice .nil [], .int .i64 e])
 else v=.tup [.slice .nil [], .int .i64 (askErr p ps)]
theorem still_InP (ms:List InP):∀ c∈(ms.map encInP).flatten,still c:=by
 intro c hc
 obtain ⟨l,hl,h⟩:=List.mem_flatten.1 hc
 obtain ⟨m,_,rfl⟩:=List.mem_map.1 hl
 simp only [encInP,List.mem_cons,List.not_mem_nil,or_false] at h
 rcases h with rfl | rfl
 ·exact ⟨rfl,rfl,rfl⟩
 ·refine ⟨rfl,?_,by cases m.b<;>rfl⟩
  cases hb:m.b<;>rfl
theorem prg_bodyQ {p:Prg} (hp:OkPrg p) (hw:wtL (encPrg p)≤300000000) (h:chkPrg p=true) {ps:List Int} (hl:ps.length=p.params.length) {c:Mc} (hcs:c.sh=shapesOf ps p.arrays) (hnp:c.np=ps.length)
  (hasg:∀ (s:Stm) (nv:Nat),OkStm s→OkSt c.sh nv s→nv≤1000→c.np≤nv→s.kind≠1→s.kind≠2→AsgQ c nv s):BodyQ c ps.length p.body:=by
 have hh:=chk_head h
 have hok:=prg_okst h hl
 have hc:=h
 simp only [chkPrg,Bool.and_eq_true] at hc
 obtain ⟨_,h1⟩:=chkBody_dl hc.2
 have hn:=nAsg_wt p.body
 simp only [encPrg,encStms_map,wtL,wt] at hw
 refine bodyq hasg (by have:=hh.1; omega) (by omega) hp.bl (fun s hs=>⟨hp.bs s hs,?_⟩) (by omega) fun s hs=>⟨by rw [hcs]; exact hok s hs,?_⟩
 ·obtain ⟨st',h'⟩:=chkList_mem h1 s hs
  exact chk_okas s _ _ h'
 ·obtain ⟨st',h'⟩:=chkList_mem h1 s hs
  have:=chk_okts hh.1 s p.params st' (by have:=hh.1; omega) h'
  rwa [← hl] at this
theorem insts_ok {p:Prg} (hp:OkPrg p) (hw:wtL (encPrg p)≤300000000) {b:Bool} {ps:List Int} (hz:b=true→ps=[]) (hpl:ps.length≤LIM) :
  ∃ v,EvC theEnv 25 [.agg (encPrg p), .slice (nk b) (ps.map encI)] v∧InstsV p ps v:=by
 have fin:CallQ theEnv (.fn 25) [.agg (encPrg p), .slice (nk b) (ps.map encI)] [] (fun o S'=>∃ v,o=.ret v∧S'=[]∧InstsV p ps v)→∃ v,EvC theEnv 25 [.agg (encPrg p), .slice (nk b) (ps.map encI)] v∧InstsV p ps v:=by
  rintro ⟨o,S',h1,v,rfl,rfl,h2⟩
  exact ⟨v,h1,h2⟩
 refine fin ?_
 refine CallQ.fnZ rfl rfl rfl rfl ?_
 simp only [a25,c25,go_sem,simprocAttr,(asked_ok hp hpl).call,List.length_nil]
 rw [Run_if]
 simp only [go_sem,simprocAttr]
 by_cases he:askErr p ps=0
 ·obtain ⟨hc,hl,hin,hsh,hrng⟩:=ask_in he
  have hl2:ps.length≤1000:=by have:=(chk_head hc).1; omega
  have hxr:InRng ps:=by
   unfold InRng
   rw [List.any_eq_false]
   intro y hy
   have:=hrng y hy
   simp [farI]; omega
  have hJ:JI 1 2 [] [] [⟨[encPrg p,[.slice .nil []],[.bool false]],none⟩]:=⟨_,_,[],rfl,rfl,rfl,rfl,by decide, .inl ⟨rfl,rfl⟩,by simp⟩
  have hex:=exec_run (B0:=[⟨[encPrg p,[.slice .nil []],[.bool false]],none⟩]) (rows:=[]) hp (bs:=(shapesOf ps p.arrays).isEmpty) hz hl2 (sh:=shapesOf ps p.arrays) (mv:=.slice .nil []) rfl ⟨rfl,rfl,rfl,rfl⟩ (dry:=true) (g:=62) (oi:=1) (fi:=2) (J:=JI 1 2) hJ (fun h=>by cases h) sx (fun c h1 h2 h3 h4 h5 h6 h7=>prg_bodyQ hp hw hc hl h2 h4 fun s nv _ _ h8 h9 _ _=>asg_dry h5 h7 h6 h9 h8) hxr
  have hdr:bodyT (shapesOf ps p.arrays) ps.length true p.body ps 0 0 []=dryT p ps:=rfl
  rw [hdr] at hex
  have herr:=errT_body (shapesOf ps p.arrays) ps.length true p.body ps 0 0 []
  rw [hdr] at herr
  simp only [he,shapesV_0,go_sem,simprocAttr,List.length_nil]
  refine CallPQ hex (by simp only [go_sem,simprocAttr,Nat.not_lt_zero,decide_false,Bool.false_and,Bool.and_false]) sx ?_
  rintro o S' hP
  unfold ExecP at hP
  cases hbv:(dryT p ps).r with
  | pan e =>
   rw [hbv] at hP herr
   obtain ⟨rfl,hl1,hc1⟩:=hP
   obtain ⟨B',rfl⟩:=one_level hl1 hc1
   have he0:e≠0:=by rcases herr with rfl | rfl<;>decide
   simp only [go_sem,simprocAttr,List.length_nil]
   rw [Run_if]
   simp only [go_sem,simprocAttr,he0,List.length_nil]
   rw [FinZR_low sx]
   refine ⟨_,rfl,rfl,?_⟩
   unfold InstsV
   rw [if_pos he,hbv]
  | ok st rows' =>
   rw [hbv] at hP
   obtain ⟨rfl,hl1,hc1,hj,_⟩:=hP
   obtain ⟨B,ov,ms,rfl,hms,hoi,hfi,hne,ho,hmx⟩:=hj
   have hfi2:onBox (bget B 2) 0 1 false=some (.bool (decide (4096 < (dryT p ps).i.length))):=by rw [hfi]; rfl
   simp only [go_sem,simprocAttr,List.length_nil,hfi2]
   rw [Run_if]
   simp only [go_sem,simprocAttr]
   by_cases h9:(dryT p ps).i.length≤4096
   ·have h9':¬ 4096 < (dryT p ps).i.length:=by omega
    rw [List.take_of_length_le h9] at hms
    have hcl:cellO (bget B 1) 0=some ov:=by rw [hoi]; rfl
    have hio:=ho.cp.2.2.1
    have hld:onBox (bget B 1) 0 1 false=some ov:=by
     rw [hoi]
     simp only [go_sem,simprocAttr,ho.cp.1]
    simp only [h9',go_sem,simprocAttr,List.length_nil,if_false,decide_false,hcl,hio,hld,ho.cp.1]
    refine ⟨ho.cp.2.1,?_⟩
    have fin2:∀ b:Bool,InstsV p ps (.tup [.slice (nk b) (ms.map encInP), .int .i64 0]):=fun b=>by
     unfold InstsV
     rw [if_pos he,hbv]
     simp only [h9,if_true]
     exact ⟨b,ms,hms,hmx,rfl⟩
    rcases ho with ⟨h0,rfl⟩ | ⟨bi,_,_,rfl,hb⟩
    ·rw [FinZR_low sx]
     refine ⟨_,rfl,rfl,?_⟩
     have:=fin2 true
     rwa [h0] at this
    ·have hz1:=frz_rows (S:=[⟨B,none⟩]) (rows:=ms.map encInP) (n:=2) (l:=0) (i:=bi) (e:=77) (lo:=0) (k:=1) (Nat.le_refl _) (by simp only [go_sem,simprocAttr]; exact hb) (by decide) (fun r hr=>by
      obtain ⟨m,_,rfl⟩:=List.mem_map.1 hr; rfl) (still_InP ms)
     have hz2:AM.frz [⟨B,none⟩] 0 4 (.tup [.bsl 0 bi 0 (ms.map encInP).length 2 77, .int .i64 0])=some (.tup [.slice .shut (ms.map encInP), .int .i64 0]):=by
      simp only [AM.frz,List.mapM_cons,List.mapM_nil] at hz1 ⊢
      rw [hz1]
      rfl
     rw [FinZR_frz (by simp [low,lowL]) hz2 sx]
     exact ⟨_,rfl,rfl,fin2 false⟩
   ·have h9':4096 < (dryT p ps).i.length:=by omega
    simp only [h9',go_sem,simprocAttr,List.length_nil,if_true,decide_true]
    rw [FinZR_low sx]
    refine ⟨_,rfl,rfl,?_⟩
    unfold InstsV
    rw [if_pos he,hbv]
    simp only [h9,if_false]
 ·rw [shapesV_n he]
  simp only [he,go_sem,simprocAttr,List.length_nil,if_false]
  rw [FinZR_low sx]
  refine ⟨_,rfl,rfl,?_⟩
  unfold InstsV
  rw [if_neg he]
end Y
end Wp
end AM
end Go.Proofs.Ytimfbnojmdnlnaa
end
section
namespace Go.Proofs.Ytimfbnojmdnlnaa
namespace AM
namespace Wp
namespace Y
def wetT (p:Prg) (ps:List Int) (rows:List (List Int)):Tr:=bodyT (shapesOf ps p.arrays) ps.length false p.body ps 0 0 rows
def TraceV (p:Prg) (ps:List Int) (mem:List Mem) (v:V):Prop :=
 if askErr p ps=0 then
  (if fitV mem (shapesOf ps p.arrays)=true then
   (match (wetT p ps (mem.map (·.row))).r with
   | .ok _ _=>if (wetT p ps (mem.map (·.row))).l.length≤4096 then ∃ (b:Bool) (ms:List EvP),ms.map EvP.toE=(wetT p ps (mem.map (·.row))).l∧(∀ m∈ms,m.m.x.length≤1000)∧v=.tup [.slice (nk b) (ms.map encEvP), .int .i64 0] else v=.tup [.slice .nil [], .int .i64 3]
   | .pan e=>v=.tup [.slice .nil [], .int .i64 e])
  else v=.tup [.slice .nil [], .int .i64 1])
 else v=.tup [.slice .nil [], .int .i64 (askErr p ps)]
theorem begun_c {p:Prg} (hp:OkPrg p) {b bm:Bool} {ps:List Int} {mem:List Mem} (hpl:ps.length≤LIM) (hm:OkMem mem) :
  (∃ e:Int,e≠0∧e=(if askErr p ps=0 then 1 else askErr p ps)∧(askErr p ps=0→fitV mem (shapesOf ps p.arrays)=false)∧EvC theEnv 56 [.agg (encPrg p), .slice (nk b) (ps.map encI), .slice (nk bm) (mem.map encMem)] (.tup [.slice .nil [], .slice .nil [], .int .i64 e])) ∨
  (askErr p ps=0∧fitV mem (shapesOf ps p.arrays)=true∧∃ (B:List (List V)) (mv:V),calmB B=true∧MB [⟨encPrg p::B,none⟩] mv (mem.map (·.row))∧(cp mv=some mv∧strip mv=mv∧tame mv=true∧cellsOf mv=some [mv])∧calmC [mv]=true∧(∀ n,n=1→low n mv=true) ∧
   ∀ {ks:List KI} {F:Fr} {Q:Ex→Fr→St→Prop} {bs:List Blk} {d:Option Nat},Call theEnv 56 [.agg (encPrg p), .slice (nk b) (ps.map encI), .slice (nk bm) (mem.map encMem)] d (.s bs) ks F [⟨[encPrg p],none⟩] Q =
    Wk theEnv (.s bs) ks (putO F d (.tup [.slice (nk (shapesOf ps p.arrays).isEmpty) ((shapesOf ps p.arrays).map encShape),mv, .int .i64 0])) [⟨encPrg p::B,none⟩] Q):=by
 rcases begun_is hp (b:=b) (bm:=bm) hpl hm with h | ⟨he,hfit,hmn,hB⟩ | ⟨he,hfit,hmn,B,j,cs,hb1,hb2,hj,hrows,hC⟩
 ·exact .inl h
 ·refine .inr ⟨he,hfit,[], .slice .nil [],rfl, .inl ⟨by rw [hmn]; rfl,rfl⟩,⟨rfl,rfl,rfl,rfl⟩,rfl,fun _ _=>rfl,?_⟩
  intro ks F Q bs d
  rw [evc12_call hB sx (fun n=>by simp only [go_sem,simprocAttr])]
 ·refine .inr ⟨he,hfit,B.map (relocL 0 0 1), .bsl 0 (1+j) 0 mem.length 1 35,by rw [calmB_reloc]; exact hb2,hrows.mb (b:=encPrg p) hj,⟨rfl,rfl,rfl,rfl⟩,rfl,fun n hn=>by subst hn; rfl,?_⟩
  intro ks F Q bs d
  rw [Call_esc hC sx (by simp [bare,bareL]) hb1]
  have hnk:∀ {b:Bool} {l:List (List V)},reloc 0 0 1 (.slice (nk b) l)=.slice (nk b) l:=fun {b l}=>by cases b<;>rfl
  simp only [go_sem,simprocAttr,List.length_nil,reloc,relocL,List.cons_append,List.nil_append,if_true,hnk]
theorem trace_ok {p:Prg} (hp:OkPrg p) (hw:wtL (encPrg p)≤300000000) {b bm:Bool} {ps:List Int} {mem:List Mem} (hz:b=true→ps=[]) (hpl:ps.length≤LIM) (hm:OkMem mem) :
  ∃ v,EvC theEnv 24 [.agg (encPrg p), .slice (nk b) (ps.map encI), .slice (nk bm) (mem.map encMem)] v∧TraceV p ps mem v:=by
 have fin:CallQ theEnv (.fn 24) [.agg (encPrg p), .slice (nk b) (ps.map encI), .slice (nk bm) (mem.map encMem)] [] (fun o S'=>∃ v,o=.ret v∧S'=[]∧TraceV p ps mem v)→∃ v,EvC theEnv 24 [.agg (encPrg p), .slice (nk b) (ps.map encI), .slice (nk bm) (mem.map encMem)] v∧TraceV p ps mem v:=by
  rintro ⟨o,S',h1,v,rfl,rfl,h2⟩
  exact ⟨v,h1,h2⟩
 refine fin ?_
 refine CallQ.fnZ rfl rfl rfl rfl ?_
 simp only [a24,c24,go_sem,simprocAttr,List.length_nil]
 rcases begun_c hp (b:=b) (bm:=bm) hpl hm with ⟨e,he0,hee,hfe,hA⟩ | ⟨he,hfit,B0,mv,hcB,hmb,hmv,hcm,hlow,hcall⟩
 ·rw [evc12_call hA sx (fun n=>by simp only [go_sem,simprocAttr])]
  simp only [go_sem,simprocAttr]
  rw [Run_if]
  simp only [go_sem,simprocAttr,he0,List.length_nil]
  rw [FinZR_low sx]
  refine ⟨_,rfl,rfl,?_⟩
  unfold TraceV
  by_cases h0:askErr p ps=0
  ·rw [if_pos h0,if_neg (by rw [hfe h0]; decide)]
   rw [hee,if_pos h0]
  ·rw [if_neg h0]
   rw [hee,if_neg h0]
 ·obtain ⟨hc,hl,hin,hsh,hrng⟩:=ask_in he
  have hl2:ps.length≤1000:=by have:=(chk_head hc).1; omega
  have hagc:=cells_agree hc hsh
  have hxr:InRng ps:=by
   unfold InRng
   rw [List.any_eq_false]
   intro y hy
   have:=hrng y hy
   simp [farI]; omega
  have hfitR:Fit (shapesOf ps p.arrays) (mem.map (·.row)):=by
   have h1:=fitV_len hfit
   rw [hagc.1] at h1
   exact fit_of hc hsh (mem:=mem.map (·.row)) (by rw [List.map_map]; exact h1)
  have hJ:JE mv (blen B0+1) (blen B0+1+1) [] [] [⟨encPrg p::(B0++[[.slice .nil []],[.bool false]]),none⟩]:=by
   refine ⟨_, .slice .nil [],[],rfl,rfl,by simp only [go_sem,simprocAttr],by simp only [go_sem,simprocAttr],by omega, .inl ⟨rfl,rfl⟩,by simp,fun _=>rfl,fun om n h=>?_⟩
   rcases hmb with ⟨_,rfl⟩ | ⟨oi,cs,rfl,h2,_⟩
   ·cases h
   ·cases h
    rw [getBox_one] at h2
    have:=bget_lt h2
    simp only [List.length_cons,blen] at this ⊢
    omega
  have hmb2:MB [⟨encPrg p::(B0++[[.slice .nil []],[.bool false]]),none⟩] mv (mem.map (·.row)):=by
   have hap:∀ {i:Nat} {w:List V},bget (encPrg p::B0) i=some w→bget (encPrg p::(B0++[[.slice .nil []],[.bool false]])) i=some w:=fun {i w} h=>by
    have hlt:=bget_lt h
    rw [← List.cons_append]
    unfold bget at h ⊢
    rw [List.getElem?_append_left hlt]; exact h
   exact MB.keep hmb (fun om n cs _ h _=>hap h) fun i r h=>hap h
  have hex:=exec_run (B0:=[⟨encPrg p::(B0++[[.slice .nil []],[.bool false]]),none⟩]) (rows:=mem.map (·.row)) hp (bs:=(shapesOf ps p.arrays).isEmpty) hz hl2 (sh:=shapesOf ps p.arrays) (mv:=mv) hcm hmv (dry:=false) (g:=59) (oi:=blen B0+1) (fi:=blen B0+1+1) (J:=JE mv (blen B0+1) (blen B0+1+1)) hJ (fun _=>⟨hmb2,hfitR⟩) (by simp only [go_sem,simprocAttr,hcB]) (fun c h1 h2 h3 h4 h5 h6 h7=>prg_bodyQ hp hw hc hl h2 h4 fun s nv hs hst h8 h9 hk1 hk2=>by
   rw [← h3] at h7
   cases hst with
   | loop h=>exact absurd h hk1
   | test h=>exact absurd h hk2
   | asg _ _ hx ht=>exact asg_wet (Nat.le_trans h8 (by decide)) h5 (use_trace h7 h6 h9 h8) (wr_trace h7) hs hx ht) hxr
  have hdr:bodyT (shapesOf ps p.arrays) ps.length false p.body ps 0 0 (mem.map (·.row))=wetT p ps (mem.map (·.row)):=rfl
  rw [hdr] at hex
  have herr:=errT_body (shapesOf ps p.arrays) ps.length false p.body ps 0 0 (mem.map (·.row))
  rw [hdr] at herr
  rw [hcall]
  simp only [go_sem,simprocAttr,List.length_nil,hmv.1,hmv.2.1,hmv.2.2.1,hmv.2.2.2]
  refine CallPQ hex (by simp only [go_sem,simprocAttr,Nat.not_lt_zero,decide_false,Bool.false_and,Bool.and_false]) (by simp only [go_sem,simprocAttr,hmv.2.2.1]) ?_
  rintro o S' hP
  unfold ExecP at hP
  cases hbv:(wetT p ps (mem.map (·.row))).r with
  | pan e =>
   rw [hbv] at hP herr
   obtain ⟨rfl,hl1,hc1⟩:=hP
   obtain ⟨B',rfl⟩:=one_level hl1 hc1
   have he0:e≠0:=by rcases herr with rfl | rfl<;>decide
   simp only [go_sem,simprocAttr,List.length_nil]
   rw [Run_if]
   simp only [go_sem,simprocAttr,he0,List.length_nil]
   rw [FinZR_low sx]
   refine ⟨_,rfl,rfl,?_⟩
   unfold TraceV
   rw [if_pos he,if_pos hfit,hbv]
  | ok st rows' =>
   rw [hbv] at hP
   obtain ⟨rfl,hl1,hc1,hj,_⟩:=hP
   obtain ⟨B,ov,ms,rfl,hms,hoi,hfi,hne,ho,hmx,_,_⟩:=hj
   have hfi2:onBox (bget B (blen B0+1+1)) 0 1 false=some (.bool (decide (4096 < (wetT p ps (mem.map (·.row))).l.length))):=by rw [hfi]; rfl
   simp only [go_sem,simprocAttr,List.length_nil,hfi2]
   rw [Run_if]
   simp only [go_sem,simprocAttr]
   by_cases h9:(wetT p ps (mem.map (·.row))).l.length≤4096
   ·have h9':¬ 4096 < (wetT p ps (mem.map (·.row))).l.length:=by omega
    rw [List.take_of_length_le h9] at hms
    have hcl:cellO (bget B (blen B0+1)) 0=some ov:=by rw [hoi]; rfl
    have hio:=ho.cp.2.2.1
    have hld:onBox (bget B (blen B0+1)) 0 1 false=some ov:=by
     rw [hoi]
     simp only [go_sem,simprocAttr,ho.cp.1]
    simp only [h9',go_sem,simprocAttr,List.length_nil,if_false,decide_false,hcl,hio,hld,ho.cp.1]
    refine ⟨ho.cp.2.1,?_⟩
    have fin2:∀ b:Bool,TraceV p ps mem (.tup [.slice (nk b) (ms.map encEvP), .int .i64 0]):=fun b=>by
     unfold TraceV
     rw [if_pos he,if_pos hfit,hbv]
     simp only [h9,if_true]
     exact ⟨b,ms,hms,hmx,rfl⟩
    rcases ho with ⟨h0,rfl⟩ | ⟨bi,_,_,rfl,hb⟩
    ·rw [FinZR_low sx]
     refine ⟨_,rfl,rfl,?_⟩
     have:=fin2 true
     rwa [h0] at this
    ·have hz1:=frz_rows (S:=[⟨B,none⟩]) (rows:=ms.map encEvP) (n:=6) (l:=0) (i:=bi) (e:=79) (lo:=0) (k:=1) (Nat.le_refl _) (by simp only [go_sem,simprocAttr]; exact hb) (by decide) (fun r hr=>by
      obtain ⟨m,_,rfl⟩:=List.mem_map.1 hr; rfl) (still_EvP ms)
     have hz2:AM.frz [⟨B,none⟩] 0 4 (.tup [.bsl 0 bi 0 (ms.map encEvP).length 6 79, .int .i64 0])=some (.tup [.slice .shut (ms.map encEvP), .int .i64 0]):=by
      simp only [AM.frz,List.mapM_cons,List.mapM_nil] at hz1 ⊢
      rw [hz1]
      rfl
     rw [FinZR_frz (by simp [low,lowL]) hz2 sx]
     exact ⟨_,rfl,rfl,fin2 false⟩
   ·have h9':4096 < (wetT p ps (mem.map (·.row))).l.length:=by omega
    simp only [h9',go_sem,simprocAttr,List.length_nil,if_true,decide_true]
    rw [FinZR_low sx]
    refine ⟨_,rfl,rfl,?_⟩
    unfold TraceV
    rw [if_pos he,if_pos hfit,hbv]
    simp only [h9,if_false]
end Y
end Wp
end AM
end Go.Proofs.Ytimfbnojmdnlnaa
end
