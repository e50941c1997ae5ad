/- The law RunTraces, on trees. -/
import Derived.Test.YtimfbnojmdnlnaaGreatKM47
import Derived.Test.YtimfbnojmdnlnaaGreatKM50
import Derived.Test.YtimfbnojmdnlnaaGreatKM51
import Derived.Test.YtimfbnojmdnlnaaGreatKM52
import Derived.Test.YtimfbnojmdnlnaaGreatKM36
set_option linter.all false
set_option maxRecDepth 100000
namespace Go.Proofs.YtimfbnojmdnlnaaGreat
namespace AM
namespace Wp
namespace Y
theorem same_ok {s p a c v:Int} {b1 b2:Bool} {x:List Int} (hx:x.length≤1000000000):Sp theEnv 37 [.agg [.int .i64 s, .slice (nk b1) (x.map encI), .int .i64 p, .int .i64 a, .int .i64 c, .int .i64 v], .agg [.int .i64 s, .slice (nk b2) (x.map encI), .int .i64 p, .int .i64 a, .int .i64 c, .int .i64 v]] (.bool true):=by
 have ho:=sameinst_ok (s:=s) (b1:=b1) (b2:=b2) hx
 have c1:∀ (b:Bool) (l:List (List V)),cutV [.int .i64 s, .slice (nk b) l, .int .i64 p, .int .i64 a, .int .i64 c, .int .i64 v] 0 2 true=some (.agg [.int .i64 s, .slice (nk b) l]):=fun b l=>by cases b<;>rfl
 refine Sp.fn rfl rfl rfl sx sy fun S=>?_; simp only [a37,c37,go_sem,simprocAttr]
 simp only [c1,go_sem,simprocAttr]
 rw [ho.call]
 simp only [go_sem,simprocAttr]
theorem bothTrace {p:Prg} {ps:List Int} {mem:List Mem} (hl:askErr p ps=0→ps.length=p.params.length) {v w:V} (hv:TraceV p ps mem v) (hw:RTraceV p ps mem w) :
  (∃ (b c:Bool) (ms:List EvP),ms.length≤4096∧(∀ m∈ms,m.m.x.length≤1000)∧v=.tup [.slice (nk b) (ms.map encEvP), .int .i64 0]∧w=.tup [.slice (nk c) ((ms.map EvP.toE).map encEv), .int .i64 0])∨∃ e,v=.tup [.slice .nil [], .int .i64 e]∧w=.tup [.slice .nil [], .int .i64 e]:=by
 unfold TraceV at hv
 unfold RTraceV at hw
 by_cases he:askErr p ps=0
 ·have e1:wetT p ps (mem.map (·.row))=totR p ps (mem.map (·.row)):=by unfold wetT totR; rw [hl he]
  rw [if_pos he] at hv hw
  rw [e1] at hv
  by_cases hf:fitV mem (shapesOf ps p.arrays)=true
  ·rw [if_pos hf] at hv hw
   cases hr:(totR p ps (mem.map (·.row))).r with
   | pan e =>
    rw [hr] at hv hw
    exact .inr ⟨e,hv,hw⟩
   | ok st rows =>
    rw [hr] at hv hw
    simp only at hv hw
    by_cases h9:(totR p ps (mem.map (·.row))).l.length≤4096
    ·rw [if_pos h9] at hv hw
     obtain ⟨b,ms,hms,hx,rfl⟩:=hv
     refine .inl ⟨b,_,ms,?_,hx,rfl,by rw [hms]; exact hw⟩
     have:=congrArg List.length hms
     simp at this; omega
    ·rw [if_neg h9] at hv hw
     exact .inr ⟨3,hv,hw⟩
  ·rw [if_neg hf] at hv hw
   exact .inr ⟨1,hv,hw⟩
 ·rw [if_neg he] at hv hw
  exact .inr ⟨_,hv,hw⟩
theorem traceslaw_ok {p:Prg} (hp:OkPrg p) (hw:wtL (encPrg p)≤300000000) (b bm:Bool) (ps:List Int) (mem:List Mem) (hz:b=true→ps=[]) (hpl:ps.length≤LIM) (hl:ps.length+mem.length+memLen mem≤1000000000000) (hmz:∀ m∈mem,m.n=true→m.row=[]) :
  Sp theEnv 8 [.agg (encPrg p), .slice (nk b) (ps.map encI), .slice (nk bm) (mem.map encMem)] (.bool true):=by
 have hsm:=sm_prg hp (by omega)
 refine Sp.fn rfl rfl rfl sx sy fun S=>?_; simp only [a8,c8,go_sem,simprocAttr]
 rw [(few12_ok hp b bm ps mem hl).call]
 simp only [go_sem,simprocAttr]
 rw [Run_if]
 cases hfw:(few p 1000&&decide (ps.length+mem.length+memLen mem≤10000)) with
 | false =>
  simp only [hfw,go_sem,simprocAttr]
  rw [awake12_c]; simp only [go_sem,simprocAttr]
 | true =>
  simp only [hfw,go_sem,simprocAttr]
  have hmd:OkMem mem:=⟨by simp at hfw; omega,fun m hm=>⟨by have:=memLen_mem hm; simp at hfw; omega,hmz m hm⟩⟩
  obtain ⟨v,hv,hRv⟩:=trace_ok hp hw (b:=b) (bm:=bm) (mem:=mem) hz hpl hmd
  obtain ⟨w,hw2,hRw⟩:=rtrace_ok hp hw hsm (b:=b) (bm:=bm) (mem:=mem) hpl hmd
  rcases bothTrace (fun he=>(ask_in he).2.1) hRv hRw with ⟨b1,b2,ms,hml,hmx,rfl,rfl⟩ | ⟨e,rfl,rfl⟩
  ·simp only [go_sem,simprocAttr,evc12_call hv sx (fun n=>by simp only [go_sem,simprocAttr]),evc12_call hw2 sx (fun n=>by simp only [go_sem,simprocAttr])]
   refine Run_range ms.length [7,9] [] (fun k _ S'=>S'=⟨[encPrg p],none⟩::S) (by omega) sx sx rfl rfl rfl rfl sx rfl ?_ ?_
   ·rintro k F _ hk rfl hi hkept
    simp only [go_sem,simprocAttr] at hkept
    obtain ⟨m,hm⟩:∃ m,ms[k]?=some m:=⟨ms[k],List.getElem?_eq_getElem hk⟩
    have hx:=hmx m (List.mem_of_getElem? hm)
    have hm2:(ms.map EvP.toE)[k]?=some m.toE:=by rw [List.getElem?_map,hm]; rfl
    have hsame:=same_ok (s:=m.m.stm) (p:=m.pos) (a:=m.arr) (c:=m.cell) (v:=m.val) (b1:=m.m.b) (b2:=false) (x:=m.m.x) (by omega)
    have c1:∀ (b:Bool) (l:List (List V)),cutV [.int .i64 m.m.stm, .slice (nk b) l, .int .i64 m.pos, .int .i64 m.arr, .int .i64 m.cell, .int .i64 m.val] 0 6 true=some (.agg [.int .i64 m.m.stm, .slice (nk b) l, .int .i64 m.pos, .int .i64 m.arr, .int .i64 m.cell, .int .i64 m.val]):=fun b l=>by cases b<;>rfl
    have c2:=c1 false (m.m.x.map encI)
    rw [show nk false=SK.shut from rfl] at hsame c2
    simp only [go_sem,simprocAttr,hkept,hi,iaO_map hm,iaO_map hm2,Wk_enter,encEvP,encEv,EvP.toE,InP.toI,c1,c2]
    rw [hsame.call]
    simp only [go_sem,simprocAttr]
   ·rintro F _ rfl hkept
    simp only [go_sem,simprocAttr] at hkept
    simp only [go_sem,simprocAttr]
    rw [awake12_c]; simp only [go_sem,simprocAttr]
  ·simp only [go_sem,simprocAttr,evc12_call hv sx (fun n=>rfl),evc12_call hw2 sx (fun n=>rfl)]
   refine Run_range 0 [7,9] [] (fun k _ S'=>S'=⟨[encPrg p],none⟩::S) (by decide) sx sx rfl rfl rfl rfl sx rfl ?_ ?_
   ·rintro k F _ hk rfl hi hkept
    omega
   ·rintro F _ rfl hkept
    simp only [go_sem,simprocAttr] at hkept
    simp only [go_sem,simprocAttr]
    rw [awake12_c]; simp only [go_sem,simprocAttr]
end Y
end Wp
end AM
end Go.Proofs.YtimfbnojmdnlnaaGreat
