/- The reference's Run; The reference's Trace. -/
import Derived.Test.YtimfbnojmdnlnaaGreatKM49
import Derived.Test.YtimfbnojmdnlnaaGreatKM36
set_option linter.all false
set_option maxRecDepth 100000
section
namespace Go.Proofs.YtimfbnojmdnlnaaGreat
namespace AM
namespace Wp
theorem MB.rel {B:List (List V)} {b:List V} {mv:V} {rows:List (List Int)} (h:MB [⟨B,none⟩] mv rows):MB [⟨b::B.map (relocL 0 0 1),none⟩] (reloc 0 0 1 mv) rows:=by
 rcases h with ⟨h1,rfl⟩ | ⟨oi,cs,rfl,h2,h3,h4,h5⟩
 ·exact .inl ⟨h1,rfl⟩
 ·rw [getBox_one] at h2
  have hw:=dz_was h2
  have hkind:∀ (j:Nat) (d:V),cs[j]?=some d→d=.slice .nil []∨∃ i n,d=.bsl 0 i 0 n 1 3:=fun j d hd=>by
   have hj:=(List.getElem?_eq_some_iff.1 hd).1
   obtain ⟨r,hr⟩:∃ r,rows[j]?=some r:=⟨rows[j]'(by omega),List.getElem?_eq_getElem _⟩
   rcases h4 j r hr with ⟨_,h⟩ | ⟨i,h,_⟩
   ·rw [hd] at h; cases h; exact .inl rfl
   ·rw [hd] at h; cases h; exact .inr ⟨_,_,rfl⟩
  have hu:∀ c∈relocL 0 0 1 cs,isUndef c=false:=by
   rw [relocL_map]
   intro c hc
   obtain ⟨d,hd,rfl⟩:=List.mem_map.1 hc
   obtain ⟨j,hj⟩:=List.mem_iff_getElem?.1 hd
   rcases hkind j d hj with rfl | ⟨i,n,rfl⟩<;>rfl
  refine .inr ⟨1+oi,relocL 0 0 1 cs,by simp [reloc],?_,by rw [relocL_map]; simp [h3],fun k r hr=>?_,fun k k' i n n' h6 h7=>?_⟩
  ·show dz ((b::B.map (relocL 0 0 1))[1+oi]?)=_
   rw [Nat.add_comm,List.getElem?_cons_succ,List.getElem?_map,hw]
   exact dz_def hu
  ·rcases h4 k r hr with ⟨h6,h7⟩ | ⟨i,h6,h7⟩
   ·exact .inl ⟨h6,by rw [relocL_map,List.getElem?_map,h7]; rfl⟩
   ·refine .inr ⟨1+i,by rw [relocL_map,List.getElem?_map,h6]; rfl,?_⟩
    rw [getBox_one] at h7
    show dz ((b::B.map (relocL 0 0 1))[1+i]?)=_
    rw [Nat.add_comm,List.getElem?_cons_succ,List.getElem?_map,dz_was h7,Option.map_some,ints_reloc]
    exact dz_ints _
  ·have back:∀ {k n:Nat},(relocL 0 0 1 cs)[k]?=some (.bsl 0 i 0 n 1 3)→∃ i',i=1+i'∧cs[k]?=some (.bsl 0 i' 0 n 1 3):=by
    intro k n hk
    rw [relocL_map,List.getElem?_map,Option.map_eq_some_iff] at hk
    obtain ⟨d,hd,he⟩:=hk
    rcases hkind k d hd with rfl | ⟨i',n',rfl⟩
    ·cases he
    ·simp only [reloc,if_true,V.bsl.injEq,true_and] at he
     obtain ⟨rfl,rfl,_⟩:=he
     exact ⟨i',rfl,hd⟩
   obtain ⟨i1,e1,c1⟩:=back h6
   obtain ⟨i2,e2,c2⟩:=back h7
   have:i1=i2:=by omega
   subst this
   exact h5 k k' i1 n n' c1 c2
theorem reloc_nk {b:Bool} {l:List (List V)}:reloc 0 0 1 (.slice (nk b) l)=.slice (nk b) l:=by cases b<;>rfl
theorem reloc_grown {e:Nat} {l:List (List V)}:reloc 0 0 1 (grown e l)=grown e l:=by cases l<;>rfl
theorem rcells_rel {c:Rc} {st e:Int} {ins:List Ins} {evs:List Ev}:relocL 0 0 1 (rcells c st e ins evs)=rcells ⟨c.p,c.sh,c.b,reloc 0 0 1 c.mv,c.dry,c.mi⟩ st e ins evs:=by
 simp only [rcells,rcw,relocL,reloc_nk,reloc_grown]
 rfl
def RRunV (p:Prg) (ps:List Int) (mem:List Mem) (v:V):Prop :=
 if askErr p ps=0 then
  (if fitV mem (shapesOf ps p.arrays)=true then
   (match (totR p ps (mem.map (·.row))).r with
   | .ok st rows=>∃ (b:Bool) (ms:List Mem),ms.map (·.row)=rows∧v=.tup [.slice (nk b) (ms.map encMem), .int .i64 st, .int .i64 0]
   | .pan e=>v=.tup [.slice .nil [], .int .i64 0, .int .i64 e])
  else v=.tup [.slice .nil [], .int .i64 0, .int .i64 1])
 else v=.tup [.slice .nil [], .int .i64 0, .int .i64 (askErr p ps)]
end Wp
end AM
end Go.Proofs.YtimfbnojmdnlnaaGreat
end
section
namespace Go.Proofs.YtimfbnojmdnlnaaGreat
namespace AM
namespace Wp
namespace Y
def RTraceV (p:Prg) (ps:List Int) (mem:List Mem) (v:V):Prop :=
 if askErr p ps=0 then
  (if fitV mem (shapesOf ps p.arrays)=true then
   (match (totR p ps (mem.map (·.row))).r with
   | .ok _ _=>if (totR p ps (mem.map (·.row))).l.length≤4096 then v=.tup [.slice (nk (totR p ps (mem.map (·.row))).l.isEmpty) ((totR p ps (mem.map (·.row))).l.map encEv), .int .i64 0] else v=.tup [.slice .nil [], .int .i64 3]
   | .pan e=>v=.tup [.slice .nil [], .int .i64 e])
  else v=.tup [.slice .nil [], .int .i64 1])
 else v=.tup [.slice .nil [], .int .i64 (askErr p ps)]
theorem rtrace_ok {p:Prg} (hp:OkPrg p) (hw:wtL (encPrg p)≤300000000) (hsm:∀ s∈p.body,SmS s) {b bm:Bool} {ps:List Int} {mem:List Mem} (hpl:ps.length≤LIM) (hm:OkMem mem) :
  ∃ v,EvC theEnv 36 [.agg (encPrg p), .slice (nk b) (ps.map encI), .slice (nk bm) (mem.map encMem)] v∧RTraceV p ps mem v:=by
 have fin:CallQ theEnv (.fn 36) [.agg (encPrg p), .slice (nk b) (ps.map encI), .slice (nk bm) (mem.map encMem)] [] (fun o S'=>∃ v,o=.ret v∧S'=[]∧RTraceV p ps mem v)→∃ v,EvC theEnv 36 [.agg (encPrg p), .slice (nk b) (ps.map encI), .slice (nk bm) (mem.map encMem)] v∧RTraceV p ps mem v:=by
  rintro ⟨o,S',h1,v,rfl,rfl,h2⟩
  exact ⟨v,h1,h2⟩
 refine fin ?_
 refine CallQ.fnZ rfl rfl rfl rfl ?_
 simp only [a36,c36,go_sem,simprocAttr,List.length_nil]
 rcases rdone_is hp hw hsm (b:=b) (bm:=bm) hpl hm with ⟨e,he0,hee,hfe,hA⟩ | ⟨he,hfit,B,mv,hE,hC⟩
 ·rw [evc12_call hA sx (fun n=>by simp only [go_sem,simprocAttr])]
  simp only [go_sem,simprocAttr]
  rw [Run_if]
  simp only [go_sem,simprocAttr,he0,List.length_nil]
  rw [FinZR_low sx]
  refine ⟨_,rfl,rfl,?_⟩
  unfold RTraceV
  by_cases h0:askErr p ps=0
  ·rw [if_pos h0,if_neg (by rw [hfe h0]; decide)]
   rw [hee,if_pos h0]
  ·rw [if_neg h0]
   rw [hee,if_neg h0]
 ·have hbar:barest B=true:=by
   unfold EndT at hE
   cases hr:(totR p ps (mem.map (·.row))).r with
   | ok st rows=>rw [hr] at hE; exact hE.b.2
   | pan e=>rw [hr] at hE; obtain ⟨_,_,_,h⟩:=hE; exact h.b.2
  rw [Call_esc hC sx (by simp [bare,bareL]) hbar]
  simp only [go_sem,simprocAttr,List.length_nil,reloc,relocL,List.cons_append,List.nil_append,if_true]
  unfold EndT at hE
  cases hr:(totR p ps (mem.map (·.row))).r with
  | ok st rows =>
   rw [hr] at hE
   have hm1:bget B 1=_:=hE.m
   have hmr:bget (B.map (relocL 0 0 1)) 1=some (rcells ⟨p,shapesOf ps p.arrays,p.arrays.isEmpty,reloc 0 0 1 mv,false,1⟩ st 0 (totR p ps (mem.map (·.row))).i (totR p ps (mem.map (·.row))).l):=by
    unfold bget
    rw [List.getElem?_map,dz_was hm1,Option.map_some,rcells_rel]
    exact dz_rcells
   have hfin2:RTraceV p ps mem (if (totR p ps (mem.map (·.row))).l.length≤4096 then .tup [.slice (nk (totR p ps (mem.map (·.row))).l.isEmpty) ((totR p ps (mem.map (·.row))).l.map encEv), .int .i64 0] else .tup [.slice .nil [], .int .i64 3]):=by
    unfold RTraceV
    rw [if_pos he,if_pos hfit,hr]
    simp only
    split<;>rfl
   simp only [errOf,go_sem,simprocAttr,List.length_nil,hmr,rcells,rcw]
   clear hE hm1 hC hbar hr
   revert hmr hfin2
   generalize (totR p ps (mem.map (·.row))).l=li
   generalize (totR p ps (mem.map (·.row))).i=ii
   intro hmr hfin2
   rw [Run_if]
   simp only [go_sem,simprocAttr]
   by_cases h9:li.length≤4096
   ·have h9':¬ (4096:Int) < (li.length:Int):=by omega
    rw [if_pos h9] at hfin2
    revert hmr hfin2 h9 h9'
    cases li with
    | nil =>
     intro hmr hfin2 h9 h9'
     simp only [h9',go_sem,simprocAttr,List.length_nil,hmr,rcells,rcw,if_false,decide_false,grown,List.map_nil,List.isEmpty_nil]
     rw [FinZR_low sx]
     exact ⟨_,rfl,rfl,hfin2⟩
    | cons y li =>
     intro hmr hfin2 h9 h9'
     simp only [h9',go_sem,simprocAttr,List.length_nil,hmr,rcells,rcw,if_false,decide_false,grown,List.map_cons,List.isEmpty_cons]
     rw [if_neg (by simpa using h9'),FinZR_low sx]
     exact ⟨_,rfl,rfl,hfin2⟩
   ·have h9':(4096:Int) < (li.length:Int):=by omega
    rw [if_neg h9] at hfin2
    simp only [h9',go_sem,simprocAttr,List.length_nil,if_true,decide_true]
    rw [FinZR_low sx]
    exact ⟨_,rfl,rfl,hfin2⟩
  | pan e =>
   rw [hr] at hE
   obtain ⟨st,rows,he0,hR⟩:=hE
   simp only [errOf,go_sem,simprocAttr,List.length_nil]
   rw [Run_if]
   simp only [go_sem,simprocAttr,he0,List.length_nil]
   rw [FinZR_low sx]
   refine ⟨_,rfl,rfl,?_⟩
   unfold RTraceV
   rw [if_pos he,if_pos hfit,hr]
end Y
end Wp
end AM
end Go.Proofs.YtimfbnojmdnlnaaGreat
end
