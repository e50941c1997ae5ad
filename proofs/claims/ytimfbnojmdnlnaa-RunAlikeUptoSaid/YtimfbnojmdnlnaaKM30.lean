/- run.machine: cell, expr; run.machine: expr; run.machine: expr; run.machine: the levels that it changes; step; run.machine: step, assign; run.assigns. -/
import Derived.Test.YtimfbnojmdnlnaaKSfB
import Derived.Test.YtimfbnojmdnlnaaKSeD
set_option linter.all false
set_option maxRecDepth 100000
section
namespace Go.Proofs.Ytimfbnojmdnlnaa
namespace AM
namespace Wp
variable {L:Nat}
def cellV (x:List Int):List Lin→List Int→Int→Option Int
 | l::ls,z::zs,k=>if linAt l x < 0∨z≤linAt l x then none else cellV x ls zs (wi (wi (k*z)+linAt l x))
 | _,_,k=>some k
theorem cell_runU {S:St} {b:Bool} {sh:List Shape} {mv xv uv:V} {np st:Int} {dry:Bool} {mi:Nat} {x:List Int} {r:Ref} {a:Nat} {s:Shape} (hr:OkRef r) (hm:getBox S L mi=some (machU (.slice (nk b) (sh.map encShape)) mv np xv st dry uv)) (hx:XS L S xv x) (hxl:x.length≤LIM)
  (ha:r.a=(a:Int)) (hs:sh[a]?=some s) (hl:r.subs.length=s.sizes.length) (hc:∀ l∈r.subs,l.c.length≤x.length) :
  CallIs theEnv (.fn 149) [.ptr L mi 0, .agg (encRef r)] S (outN 6 (cellV x r.subs s.sizes 0)) S:=by
 refine CallIs.fn rfl rfl rfl ?_
 have g1:=fun T=>getBox_up (T:=T) hm
 have hia:∀ kk:IntKind,iaO 2 (.slice (nk b) (sh.map encShape)) (.int kk r.a)=some (.look (encShape s)):=fun kk=>by rw [ha,iaO_map hs]; rfl
 simp only [a149,c149,go_sem,simprocAttr,g1,machU,hia,Wk_enter]
 refine Run_range r.subs.length [0,5,19] [6] (fun k vs S'=>∃ n,vs=[.int .i64 n]∧cellV x (r.subs.drop k) (s.sizes.drop k) n=cellV x r.subs s.sizes 0∧∃ B,S'=⟨encRef r::encShape s::B,none⟩::S) (Nat.le_trans hr.l (by decide)) sx sx rfl rfl rfl rfl sx ⟨0,by simp only [go_sem,simprocAttr],rfl,_,rfl⟩ ?_ ?_
 ·rintro k F _ hk ⟨n,hv,hn,B,rfl⟩ hi hkept
  simp only [go_sem,simprocAttr] at hkept hv
  obtain ⟨l,hlk⟩:∃ l,r.subs[k]?=some l:=⟨r.subs[k],List.getElem?_eq_getElem hk⟩
  obtain ⟨z,hz⟩:∃ z,s.sizes[k]?=some z:=⟨s.sizes[k]'(by omega),List.getElem?_eq_getElem (by omega)⟩
  have hat:=at_runU (S:=⟨encRef r::encShape s::(B++[encLin l]),none⟩::S) (g1 _) hx.up (hc l (List.mem_of_getElem? hlk)) hxl
  rw [drop_at hlk,drop_at hz,cellV] at hn
  simp only [go_sem,simprocAttr,hkept,hi,hv,iaO_map hlk]
  rw [CallP hat low0_ptr rfl]
  simp only [go_sem,simprocAttr,hkept,hi,hv,iaO_map hz]
  rw [Run_if]
  simp only [go_sem,simprocAttr]
  split
  ·rename_i h
   simp only [Bool.or_eq_true,decide_eq_true_eq] at h
   rw [if_pos h] at hn
   simp only [go_sem,simprocAttr,hkept, ← hn,outN,ended]
  ·rename_i h
   simp only [Bool.or_eq_true,decide_eq_true_eq] at h
   rw [if_neg h] at hn
   simp only [go_sem,simprocAttr,hkept,hv,iaO_map hz]
   exact ⟨_,rfl,hn⟩
 ·rintro F _ ⟨n,hv,hn,B,rfl⟩ hkept
  simp only [go_sem,simprocAttr] at hkept hv
  rw [List.drop_length] at hn
  have:cellV x [] (s.sizes.drop r.subs.length) n=some n:=rfl
  rw [this] at hn
  simp only [go_sem,simprocAttr,hkept,hv, ← hn,outN]
theorem cell_run {S:St} {b:Bool} {sh:List Shape} {mv xv:V} {np st:Int} {vi mi:Nat} {x:List Int} {r:Ref} {a:Nat} {s:Shape} (hr:OkRef r) (hm:getBox S L mi=some (mach L (.slice (nk b) (sh.map encShape)) mv np xv st vi)) (hx:XS L S xv x) (hxl:x.length≤LIM)
  (ha:r.a=(a:Int)) (hs:sh[a]?=some s) (hl:r.subs.length=s.sizes.length) (hc:∀ l∈r.subs,l.c.length≤x.length) :
  CallIs theEnv (.fn 149) [.ptr L mi 0, .agg (encRef r)] S (outN 6 (cellV x r.subs s.sizes 0)) S :=
 cell_runU hr hm hx hxl ha hs hl hc
@[go_sem] theorem cvO_int {k k':IntKind} {n:Int}:cvO k (.int k' n)=some (.int k (k.wrap n)):=_root_.id rfl
def wrapV (n:Int):Int:=IntKind.i64.wrap (IntKind.i32.wrap (IntKind.u64.wrap (BitVec.ofInt 64 (IntKind.u64.wrap n) &&& BitVec.ofInt 64 4294967295).toNat))
theorem wrap_ok (n:Int):Sp theEnv 117 [.int .i64 n] (.int .i64 (wrapV n)):=by
 have hb:∀ y:Int,bin .and 0 (.int .u64 y) (.int .u64 4294967295)=some (.int .u64 (IntKind.u64.wrap (BitVec.ofInt 64 y &&& BitVec.ofInt 64 4294967295).toNat)):=fun y=>by simp only [bin,arith,if_true]; rfl
 refine Sp.fn rfl rfl rfl sx sy fun S=>?_; simp only [a117,c117,go_sem,simprocAttr]
 simp only [go_sem,simprocAttr,hb,wrapV]
theorem opadd_ok (a b:Int):Sp theEnv 116 [.int .i64 a, .int .i64 b] (.int .i64 (wrapV (wi (a+b)))):=by
 refine Sp.fn rfl rfl rfl sx sy fun S=>?_; simp only [a116,c116,go_sem,simprocAttr]
 simp only [(wrap_ok _).call,go_sem,simprocAttr,wi]
theorem opsub_ok (a b:Int):Sp theEnv 118 [.int .i64 a, .int .i64 b] (.int .i64 (wrapV (wi (a - b)))):=by
 refine Sp.fn rfl rfl rfl sx sy fun S=>?_; simp only [a118,c118,go_sem,simprocAttr]
 simp only [(wrap_ok _).call,go_sem,simprocAttr,wi]
theorem opmul_ok (a b:Int):Sp theEnv 119 [.int .i64 a, .int .i64 b] (.int .i64 (wrapV (wi (a*b)))):=by
 refine Sp.fn rfl rfl rfl sx sy fun S=>?_; simp only [a119,c119,go_sem,simprocAttr]
 simp only [(wrap_ok _).call,go_sem,simprocAttr,wi]
theorem use_run {S:St} {vi mi:Nat} {a b c d e:Int} (hu:getBox S L 1=some [.func (.func 58) []]) (hv:getBox S L vi=some [.ptr L mi 0]) :
  CallIs theEnv (.fn 92) [.int .i64 a, .int .i64 b, .int .i64 c, .int .i64 d, .int .i64 e, .ptr L 1 0, .ptr L vi 0] S (.ret (.tup [])) S:=by
 have g1:=fun T=>getBox_up (T:=T) hu
 have g2:=fun T=>getBox_up (T:=T) hv
 have h63:∀ (S:St) (ar:List V),ar.length=6→CallIs theEnv (.fn 58) ar S (.ret (.tup [])) S:=fun S ar ha=>by
  refine CallIs.fn rfl rfl ha ?_
  simp only [a58,c58,go_sem,simprocAttr]
 refine CallIs.fn rfl rfl rfl ?_
 simp only [a92,c92,go_sem,simprocAttr,g1,g2]
 rw [CallvP (h63 _ _ rfl) rfl rfl]
 simp only [go_sem,simprocAttr]
end Wp
end AM
end Go.Proofs.Ytimfbnojmdnlnaa
end
section
namespace Go.Proofs.Ytimfbnojmdnlnaa
namespace AM
namespace Wp
variable {L:Nat}
theorem getBox_ne {l lp ip i:Nat} {v:List V} (h:l≠lp):∀ {S:St},getBox (setBox S lp ip v) l i=getBox S l i
 | []=>rfl
 | T::S=>by
  simp only [setBox]
  split
  ·rename_i h1
   simp only [getBox]
   split
   ·rename_i h2; omega
   ·rfl
  ·rename_i h1
   simp only [getBox,len_setBox,getBox_ne h (S:=S)]
def MemS (S:St) (mv:V) (rows:List (List Int)):Prop :=
 (rows=[]∧mv=.slice .nil [])∨∃ (oi:Nat) (cs:List V),mv=.bsl 0 oi 0 rows.length 1 35∧getBox S 0 oi=some cs∧cs.length=rows.length ∧
  ∀ (j:Nat) (r:List Int),rows[j]?=some r→(r=[]∧cs[j]?=some (.slice .nil []))∨∃ i:Nat,cs[j]?=some (.bsl 0 i 0 r.length 1 3)∧getBox S 0 i=some (ints r)
theorem MemS.of {S S':St} {mv:V} {rows:List (List Int)} (h:MemS S mv rows) (hg:∀ i cs,getBox S 0 i=some cs→getBox S' 0 i=some cs):MemS S' mv rows:=by
 rcases h with h | ⟨oi,cs,h1,h2,h3,h4⟩
 ·exact .inl h
 ·refine .inr ⟨oi,cs,h1,hg _ _ h2,h3,fun j r hr=>?_⟩
  rcases h4 j r hr with h | ⟨i,h5,h6⟩
  ·exact .inl h
  ·exact .inr ⟨i,h5,hg _ _ h6⟩
theorem XS.of {S S':St} {xv:V} {x:List Int} (h:XS L S xv x) (hg:∀ i cs,getBox S L i=some cs→getBox S' L i=some cs):XS L S' xv x:=by
 rcases h with h | ⟨xi,rest,h1,h2⟩
 ·exact .inl h
 ·exact .inr ⟨xi,rest,h1,hg _ _ h2⟩
theorem MemS.st {S:St} {mv:V} {rows:List (List Int)} (h:MemS S mv rows):strip mv=mv:=by
 rcases h with ⟨_,rfl⟩ | ⟨oi,cs,rfl,_⟩<;>rfl
theorem MemS.tm {S:St} {mv:V} {rows:List (List Int)} (h:MemS S mv rows):tame mv=true:=by
 rcases h with ⟨_,rfl⟩ | ⟨oi,cs,rfl,_⟩<;>rfl
theorem XS.tm {S:St} {xv:V} {x:List Int} (h:XS L S xv x):tame xv=true:=by
 rcases h with ⟨_,rfl⟩ | ⟨xi,rest,rfl,_⟩<;>rfl
theorem cut_at1 {cs:List V} {k:Nat} {w:V} (h:cs[k]?=some w) (hw:strip w=w):cutV cs k 1 false=some w:=by
 have hk:=List.getElem?_eq_some_iff.1 h
 have hk1:=hk.1
 simp only [cutV,cutL]
 rw [if_pos (by omega), ← List.getElem_cons_drop hk.1,hk.2]
 simp [ofCells,hw]
theorem MemS.rd {S:St} {mv:V} {rows:List (List Int)} (h:MemS S mv rows) {a k:Nat} {r:List Int} {y:Int} (ha:rows[a]?=some r) (hk:r[k]?=some y) :
  ∃ oi i,(∀ kk:IntKind,iaO 1 mv (.int kk (a:Int))=some (.ptr 0 oi a))∧(∀ T:Lev,onBox (getBox (T::S) 0 oi) a 1 false=some (.bsl 0 i 0 r.length 1 3)) ∧
   (∀ kk:IntKind,iaO 1 (.bsl 0 i 0 r.length 1 3) (.int kk (k:Int))=some (.ptr 0 i k))∧(∀ T:Lev,onBox (getBox (T::S) 0 i) k 1 false=some (.int .i64 y))∧getBox S 0 i=some (ints r):=by
 have hlt:=(List.getElem?_eq_some_iff.1 ha).1
 have hlk:=(List.getElem?_eq_some_iff.1 hk).1
 rcases h with ⟨rfl,_⟩ | ⟨oi,cs,rfl,h2,h3,h4⟩
 ·simp at hlt
 ·rcases h4 a r ha with ⟨rfl,_⟩ | ⟨i,h5,h6⟩
  ·simp at hlk
  ·refine ⟨oi,i,fun kk=>by rw [iaO_bsl hlt]; simp,fun T=>?_,fun kk=>by rw [iaO_bsl hlk]; simp,fun T=>?_,h6⟩
   ·rw [getBox_up h2]; exact cut_at1 h5 rfl
   ·rw [getBox_up h6]; exact cut_ints hk
structure RS (L:Nat) (sh:List Shape) (b:Bool) (mv xv:V) (np st:Int) (vi mi:Nat) (x:List Int) (rows:List (List Int)) (S:St):Prop where
 m:getBox S L mi=some (mach L (.slice (nk b) (sh.map encShape)) mv np xv st vi)
 u:getBox S L 1=some [.func (.func 58) []]
 v:getBox S L vi=some [.ptr L mi 0]
 x:XS L S xv x
 r:MemS S mv rows
theorem RS.of {sh:List Shape} {b:Bool} {mv xv:V} {np st:Int} {vi mi:Nat} {x:List Int} {rows:List (List Int)} {S S':St} (h:RS L sh b mv xv np st vi mi x rows S) (hg:∀ l i cs,l≤L→getBox S l i=some cs→getBox S' l i=some cs):RS L sh b mv xv np st vi mi x rows S' :=
 ⟨hg _ _ _ (Nat.le_refl _) h.m,hg _ _ _ (Nat.le_refl _) h.u,hg _ _ _ (Nat.le_refl _) h.v,h.x.of fun i cs=>hg L i cs (Nat.le_refl _),h.r.of fun i cs=>hg 0 i cs (Nat.zero_le _)⟩
theorem RS.up {sh:List Shape} {b:Bool} {mv xv:V} {np st:Int} {vi mi:Nat} {x:List Int} {rows:List (List Int)} {S:St} {T:Lev} (h:RS L sh b mv xv np st vi mi x rows S):RS L sh b mv xv np st vi mi x rows (T::S) :=
 h.of fun _ _ _ _=>getBox_up
theorem RS.set {sh:List Shape} {b:Bool} {mv xv:V} {np st:Int} {vi mi:Nat} {x:List Int} {rows:List (List Int)} {S:St} {lp ip:Nat} {v:List V} (h:RS L sh b mv xv np st vi mi x rows S) (hl:L < lp):RS L sh b mv xv np st vi mi x rows (setBox S lp ip v) :=
 h.of fun l i cs hl2 hb=>by rw [getBox_ne (by omega)]; exact hb
def opV (op a b:Int):Int:=if op=3 then wrapV (wi (a+b)) else if op=4 then wrapV (wi (a - b)) else if op=5 then wrapV (wi (a*b)) else if op=6 then imin a b else imax a b
def opF (op:Int):Nat:=if op=3 then 116 else if op=4 then 118 else if op=5 then 119 else if op=6 then 120 else 121
theorem opF_ok (op a b:Int):Sp theEnv (opF op) [.int .i64 a, .int .i64 b] (.int .i64 (opV op a b)):=by
 unfold opF opV
 split
 ·exact opadd_ok a b
 ·split
  ·exact opsub_ok a b
  ·split
   ·exact opmul_ok a b
   ·split
    ·exact least_ok a b
    ·exact greatest_ok a b
def readV (mem:List (List Int)) (sh:List Shape) (x:List Int) (r:Ref):Option Int :=
 (cellV x r.subs ((sh[r.a.toNat]?).elim [] (·.sizes)) 0).bind fun c=>(mem[r.a.toNat]?).bind fun row=>row[c.toNat]?
def bin2 (op:Int):List (Option Int)→Option Int
 | [some a,some b]=>some (opV op a b)
 | _=>none
mutual
def exprV (mem:List (List Int)) (sh:List Shape) (x:List Int):Exp→Option Int
 | ⟨op,k,l,r,_,args⟩=>if op=0 then some k else if op=1 then some (wrapV (linAt l x)) else if op=2 then readV mem sh x r else bin2 op (exprsV mem sh x args)
def exprsV (mem:List (List Int)) (sh:List Shape) (x:List Int):List Exp→List (Option Int)
 | []=>[]
 | e::es=>exprV mem sh x e::exprsV mem sh x es
end
theorem exprV_eq (mem:List (List Int)) (sh:List Shape) (x:List Int) (e:Exp):exprV mem sh x e=if e.op=0 then some e.k else if e.op=1 then some (wrapV (linAt e.l x)) else if e.op=2 then readV mem sh x e.r else bin2 e.op (exprsV mem sh x e.args):=by
 cases e; rw [exprV]
def OkRf (sh:List Shape) (nv:Nat) (r:Ref):Prop:=∃ (a:Nat) (s:Shape),r.a=(a:Int)∧sh[a]?=some s∧r.subs.length=s.sizes.length∧∀ l∈r.subs,l.c.length≤nv
inductive OkX (sh:List Shape) (nv:Nat):Exp→Prop
 | num {e:Exp} (h:e.op=0):OkX sh nv e
 | aff {e:Exp} (h:e.op=1) (hl:e.l.c.length≤nv):OkX sh nv e
 | read {e:Exp} (h:e.op=2) (hr:OkRf sh nv e.r):OkX sh nv e
 | bin {e p q:Exp} (h1:3≤e.op) (h2:e.op≤7) (ha:e.args=[p,q]) (hp:OkX sh nv p) (hq:OkX sh nv q):OkX sh nv e
def Fit (sh:List Shape) (mem:List (List Int)):Prop:=∀ (a:Nat) (s:Shape),sh[a]?=some s→∃ row,mem[a]?=some row∧∀ (x:List Int) (subs:List Lin) (c:Int),subs.length=s.sizes.length→cellV x subs s.sizes 0=some c→0≤c∧c < (row.length:Int)
theorem Fit.rd {sh:List Shape} {mem:List (List Int)} (h:Fit sh mem) {x:List Int} {r:Ref} {a:Nat} {s:Shape} {c:Int} (ha:r.a=(a:Int)) (hs:sh[a]?=some s) (hl:r.subs.length=s.sizes.length) (hc:cellV x r.subs s.sizes 0=some c) :
  ∃ (row:List Int) (k:Nat) (y:Int),mem[a]?=some row∧c=(k:Int)∧row[k]?=some y∧readV mem sh x r=some y:=by
 obtain ⟨row,h1,h2⟩:=h a s hs
 obtain ⟨h3,h4⟩:=h2 x r.subs c hl hc
 have hlt:c.toNat < row.length:=by omega
 refine ⟨row,c.toNat,row[c.toNat],h1,by omega,List.getElem?_eq_getElem hlt,?_⟩
 have e1:r.a.toNat=a:=by omega
 simp only [readV,e1,hs,Option.elim,hc,Option.bind_some,h1]
 exact List.getElem?_eq_getElem hlt
theorem readV_none {mem:List (List Int)} {sh:List Shape} {x:List Int} {r:Ref} {a:Nat} {s:Shape} (ha:r.a=(a:Int)) (hs:sh[a]?=some s) (hc:cellV x r.subs s.sizes 0=none):readV mem sh x r=none:=by
 have e1:r.a.toNat=a:=by omega
 simp only [readV,e1,hs,Option.elim,hc,Option.bind_none]
end Wp
end AM
end Go.Proofs.Ytimfbnojmdnlnaa
end
section
namespace Go.Proofs.Ytimfbnojmdnlnaa
namespace AM
namespace Wp
variable {L:Nat}
@[go_sem] theorem isOwn_int {k:IntKind} {n:Int}:isOwn (.int k n)=false:=_root_.id rfl
theorem at1_Exp (e:Exp):(encExp e)[1]?=some (.int .i64 e.k):=by cases e; rfl
def ExprQ (S:St) (lp ip:Nat) (v:Option Int):Out→St→Prop:=fun o S'=>∃ q:Int,S'=setBox S lp ip [.int .i64 q]∧o=outN 6 v
theorem exprQ_mk {S S':St} {lp ip:Nat} {v:Option Int} {o:Out} (q:Int) (h1:S'=setBox S lp ip [.int .i64 q]) (h2:o=outN 6 v):ExprQ S lp ip v o S':=⟨q,h1,h2⟩
theorem ax_ops {op:Int} (h1:3≤op) (h2:op≤7):axO 1 5 false (.agg [.func (.func 116) [], .func (.func 118) [], .func (.func 119) [], .func (.func 120) [], .func (.func 121) []]) (.int .i64 (IntKind.i64.wrap (op - 3)))=some (.func (.func (opF op)) []):=by
 rw [wrap64 (by omega) (by omega)]
 have:op=3∨op=4∨op=5∨op=6∨op=7:=by omega
 rcases this with rfl | rfl | rfl | rfl | rfl<;>rfl
theorem expr_run {sh:List Shape} {b:Bool} {mv xv:V} {np st:Int} {vi mi:Nat} {x:List Int} {rows:List (List Int)} (hxl:x.length≤LIM) (hfit:Fit sh rows) (stm:Int):∀ {e:Exp},OkX sh x.length e→OkExp e→∀ {S:St} {lp ip:Nat} {q:Int},RS L sh b mv xv np st vi mi x rows S→L < lp→getBox S lp ip=some [.int .i64 q] →
  CallQ theEnv (.fn 148) [.ptr L mi 0, .agg (encExp e), .int .i64 stm, .ptr lp ip 0] S (ExprQ S lp ip (exprV rows sh x e)):=by
 intro e he
 induction he with
 | @num e h =>
  intro ho S lp ip q hS hlp hq
  refine CallQ.fn rfl rfl rfl ?_
  rw [exprV_eq]
  simp only [a148,c148,go_sem,simprocAttr,h,at1_Exp]
  exact exprQ_mk q (setBox_self hq).symm rfl
 | @aff e h hl =>
  intro ho S lp ip q hS hlp hq
  have hat:=fun T=>at_run (S:=T::S) (getBox_up hS.m) hS.x.up hl hxl
  refine CallQ.fn rfl rfl rfl ?_
  rw [exprV_eq]
  simp only [a148,c148,go_sem,simprocAttr,h]
  rw [CallP (hat _) low0_ptr rfl]
  simp only [go_sem,simprocAttr,(wrap_ok _).call]
  exact exprQ_mk q (setBox_self hq).symm rfl
 | @read e h hr =>
  intro ho S lp ip q hS hlp hq
  obtain ⟨a,s,ha,hs,hl,hc⟩:=hr
  refine CallQ.fn rfl rfl rfl ?_
  rw [exprV_eq]
  have g1:=fun T=>getBox_up (T:=T) hq
  have g2:=fun T v=>setBox_up (T:=T) (v:=v) hq
  simp only [a148,c148,go_sem,simprocAttr,h,g1,g2]
  have hS1:RS L sh b mv xv np st vi mi x rows (setBox S lp ip [.int .i64 (IntKind.i64.wrap (q+1))]):=hS.set hlp
  have hq1:getBox (setBox S lp ip [.int .i64 (IntKind.i64.wrap (q+1))]) lp ip=some [.int .i64 (IntKind.i64.wrap (q+1))]:=getBox_set (dz_def (by intro c hc; simp at hc; subst hc; rfl)) hq
  have hfin:∀ v,ExprQ S lp ip v (outN 6 v) (setBox S lp ip [.int .i64 (IntKind.i64.wrap (q+1))]):=fun v=>exprQ_mk _ rfl rfl
  revert hS1 hq1 hfin
  generalize IntKind.i64.wrap (q+1)=q1
  intro hS1 hq1 hfin
  have g3:=fun T=>getBox_up (T:=T) hq1
  simp only [go_sem,simprocAttr,g3]
  have hcell:=cell_run (S:=⟨[encExp e],none⟩::setBox S lp ip [.int .i64 q1]) (ho.r') (getBox_up hS1.m) hS1.x.up hxl ha hs hl hc
  rw [CallP hcell low0_ptr rfl]
  cases hcv:cellV x e.r.subs s.sizes 0 with
  | none =>
   have:=hfin none
   rw [readV_none ha hs hcv]
   simp only [outN,go_sem,simprocAttr]
   exact ⟨rfl,this⟩
  | some c =>
   obtain ⟨row,k,y,h1,rfl,h3,h4⟩:=hfit.rd ha hs hl hcv
   rw [h4]
   obtain ⟨oi,i,r1,r2,r3,r4,_⟩:=hS1.r.rd h1 h3
   have huse:=fun (T:Lev) (v:Int)=>use_run (S:=T::setBox S lp ip [.int .i64 q1]) (a:=stm) (b:=q1) (c:=(a:Int)) (d:=(k:Int)) (e:=v) (getBox_up hS1.u) (getBox_up hS1.v)
   have g4:=fun T=>getBox_up (T:=T) hS1.m
   simp only [outN,go_sem,simprocAttr,g4,mach,hS1.r.st,hS1.r.tm,ha,r1,r2,r3,r4]
   rw [CallvP (huse _ _) rfl rfl]
   simp only [go_sem,simprocAttr]
   exact exprQ_mk q1 rfl rfl
 | @bin e p1 p2 h1 h2 ha hp1 hp2 ih1 ih2 =>
  intro ho S lp ip q hS hlp hq
  have n0:e.op≠0:=by omega
  have n1:e.op≠1:=by omega
  have n2:e.op≠2:=by omega
  have o1:OkExp p1:=ho.s' p1 (by rw [ha]; simp)
  have o2:OkExp p2:=ho.s' p2 (by rw [ha]; simp)
  have g2:=fun T v=>setBox_up (T:=T) (v:=v) hq
  have hset:∀ q1,getBox (setBox S lp ip [.int .i64 q1]) lp ip=some [.int .i64 q1]:=fun q1=>getBox_set (dz_def (by intro c hc; simp at hc; subst hc; rfl)) hq
  refine CallQ.fn rfl rfl rfl ?_
  rw [exprV_eq]
  simp only [a148,c148,go_sem,simprocAttr,n0,n1,n2,ha,exprsV]
  refine CallPQ (ih1 o1 (S:=⟨[encExp e],none⟩::S) hS.up hlp (getBox_up hq)) low0_ptr rfl ?_
  rintro o S' ⟨q1,rfl,rfl⟩
  rw [g2]
  cases hv1:exprV rows sh x p1 with
  | none =>
   simp only [outN,go_sem,simprocAttr,bin2]
   exact ⟨rfl,exprQ_mk q1 rfl rfl⟩
  | some v1 =>
   simp only [outN,go_sem,simprocAttr,ha]
   refine CallPQ (ih2 o2 (S:=⟨[encExp e],none⟩::setBox S lp ip [.int .i64 q1]) (hS.set hlp).up hlp (getBox_up (hset q1))) low0_ptr rfl ?_
   rintro o S' ⟨q2,rfl,rfl⟩
   rw [setBox_up (hset q1),setBox_setBox]
   cases hv2:exprV rows sh x p2 with
   | none =>
    simp only [outN,go_sem,simprocAttr,bin2]
    exact ⟨rfl,exprQ_mk q2 rfl rfl⟩
   | some v2 =>
    have g4:=fun T=>getBox_up (T:=T) (hS.set (v:=[.int .i64 q2]) (ip:=ip) hlp).m
    simp only [outN,go_sem,simprocAttr,bin2,g4,mach,ax_ops h1 h2]
    rw [(opF_ok e.op v1 v2).callv0 rfl]
    simp only [go_sem,simprocAttr]
    exact exprQ_mk q2 rfl rfl
end Wp
end AM
end Go.Proofs.Ytimfbnojmdnlnaa
end
section
namespace Go.Proofs.Ytimfbnojmdnlnaa
namespace AM
namespace Wp
def base (U:St) (B1:List (List V)) (B0:St):St:=U++⟨B1,none⟩::B0
variable {U:St} {T:Lev} {B1:List (List V)} {B0:St} {L:Nat}
theorem base_up:base (T::U) B1 B0=T::base U B1 B0:=rfl
@[go_sem] theorem base_len:(base U B1 B0).length=U.length+(B0.length+1):=by simp [base]
theorem getBox_app {l i:Nat} {S:St} (h:l < S.length):∀ {U:St},getBox (U++S) l i=getBox S l i
 | []=>rfl
 | T::U=>by
  rw [List.cons_append,getBox_below (by simp; omega)]
  exact getBox_app h
theorem setBox_app {l i:Nat} {S:St} {v:List V} (h:l < S.length):∀ {U:St},setBox (U++S) l i v=U++setBox S l i v
 | []=>rfl
 | T::U=>by
  rw [List.cons_append,setBox_below (by simp; omega),setBox_app h]; rfl
@[go_sem] theorem getBox_base1 {i:Nat} (h:B0.length=L):getBox (base U B1 B0) L i=bget B1 i:=by
 subst h; unfold base; rw [getBox_app (by simp),getBox_top]
@[go_sem] theorem getBox_base0 {i:Nat} (h:0 < B0.length):getBox (base U B1 B0) 0 i=getBox B0 0 i:=by
 unfold base; rw [getBox_app (by simp),getBox_below (by omega)]
@[go_sem] theorem setBox_base1 {i:Nat} {v:List V} (h:B0.length=L):setBox (base U B1 B0) L i v=base U (bset B1 i v) B0:=by
 subst h; unfold base; rw [setBox_app (by simp),setBox_top]
@[go_sem] theorem setBox_base0 {i:Nat} {v:List V} (h:0 < B0.length):setBox (base U B1 B0) 0 i v=base U B1 (setBox B0 0 i v):=by
 unfold base; rw [setBox_app (by simp),setBox_below (by omega)]
@[go_sem] theorem getBox_up1 {i:Nat} (h:B0.length=L):getBox (T::base U B1 B0) L i=bget B1 i:=by
 rw [← base_up]; exact getBox_base1 h
@[go_sem] theorem getBox_up0 {i:Nat} (h:0 < B0.length):getBox (T::base U B1 B0) 0 i=getBox B0 0 i:=by
 rw [← base_up]; exact getBox_base0 h
@[go_sem] theorem setBox_up1 {i:Nat} {v:List V} (h:B0.length=L):setBox (T::base U B1 B0) L i v=T::base U (bset B1 i v) B0:=by
 rw [← base_up,setBox_base1 h]; rfl
@[go_sem] theorem setBox_up0 {i:Nat} {v:List V} (h:0 < B0.length):setBox (T::base U B1 B0) 0 i v=T::base U B1 (setBox B0 0 i v):=by
 rw [← base_up,setBox_base0 h]; rfl
theorem calm_base:calmS (base U B1 B0)=(calmS U&&(calmB B1&&calmS B0)):=by
 unfold base calmS
 rw [List.all_append]
 simp [calmS]
@[go_sem] theorem getBox_upb {B:List (List V)} {lp:Option Lp} {i:Nat} (h:B0.length=L):getBox (⟨B,lp⟩::base U B1 B0) (U.length+(L+1)) i=bget B i:=by
 have:=getBox_top (B:=B) (lp:=lp) (R:=base U B1 B0) (i:=i)
 rwa [base_len,h] at this
@[go_sem] theorem setBox_upb {B:List (List V)} {lp:Option Lp} {i:Nat} {v:List V} (h:B0.length=L):setBox (⟨B,lp⟩::base U B1 B0) (U.length+(L+1)) i v=⟨bset B i v,lp⟩::base U B1 B0:=by
 have:=setBox_top (B:=B) (lp:=lp) (R:=base U B1 B0) (i:=i) (cs:=v)
 rwa [base_len,h] at this
theorem getBox_else {l i j:Nat} {v:List V} (h:j≠i):∀ {S:St},getBox (setBox S l i v) l j=getBox S l j
 | []=>rfl
 | T::S=>by
  simp only [setBox]
  split
  ·rename_i h1
   simp only [getBox,h1,if_true,List.getElem?_set_ne (Ne.symm h)]
  ·rename_i h1
   simp only [getBox,len_setBox,h1,if_false,getBox_else h (S:=S)]
theorem bget_set {B:List (List V)} {i:Nat} {v w:List V} (h:bget B i=some w) (hv:dz (some v)=some v):bget (bset B i v) i=some v:=by
 have hlt:i < B.length:=(List.getElem?_eq_some_iff.1 (dz_was h)).1
 simp only [bget,bset,List.getElem?_set_self hlt,hv]
theorem bget_ne {B:List (List V)} {i j:Nat} {v:List V} (h:j≠i):bget (bset B i v) j=bget B j:=by
 simp only [bget,bset,List.getElem?_set_ne (Ne.symm h)]
theorem calmB_set {B:List (List V)} {i:Nat} {v:List V} (h:calmB B=true) (hv:calmC v=true):calmB (bset B i v)=true:=by
 simp only [calmB,List.all_eq_true,bset] at h ⊢
 intro b hb
 rcases List.mem_or_eq_of_mem_set hb with hb | rfl
 ·exact h b hb
 ·exact hv
theorem calmS_set {l i:Nat} {v:List V} (hv:calmC v=true):∀ {S:St},calmS S=true→calmS (setBox S l i v)=true
 | [],_=>rfl
 | T::S,h=>by
  simp only [calmS,List.all_cons,Bool.and_eq_true] at h
  simp only [setBox]
  split
  ·simp only [calmS,List.all_cons,Bool.and_eq_true]
   exact ⟨⟨h.1.1,calmB_set h.1.2 hv⟩,h.2⟩
  ·simp only [calmS,List.all_cons,Bool.and_eq_true]
   exact ⟨h.1,calmS_set hv h.2⟩
def XB (L:Nat) (B1:List (List V)) (xv:V) (x:List Int):Prop:=(x=[]∧xv=.slice .nil [])∨∃ (xi:Nat) (rest:List Int),4≤xi∧xv=.bsl L xi 0 x.length 1 3∧bget B1 xi=some (ints (x++rest))
def MB (B0:St) (mv:V) (rows:List (List Int)):Prop :=
 (rows=[]∧mv=.slice .nil [])∨∃ (oi:Nat) (cs:List V),mv=.bsl 0 oi 0 rows.length 1 35∧getBox B0 0 oi=some cs∧cs.length=rows.length ∧
  (∀ (j:Nat) (r:List Int),rows[j]?=some r→(r=[]∧cs[j]?=some (.slice .nil []))∨∃ i:Nat,cs[j]?=some (.bsl 0 i 0 r.length 1 3)∧getBox B0 0 i=some (ints r)) ∧
  ∀ (j j' i n n':Nat),cs[j]?=some (.bsl 0 i 0 n 1 3)→cs[j']?=some (.bsl 0 i 0 n' 1 3)→j=j'
structure Mc where
 L:Nat
 sh:List Shape
 b:Bool
 mv:V
 np:Int
 vi:Nat
 mi:Nat
def PI (B1:List (List V)):Prop:=bget B1 2=some [.int .i64 0]∧bget B1 3=some [.int .i64 0]
structure MI (c:Mc) (x:List Int) (st:Int) (rows:List (List Int)) (B1:List (List V)) (B0:St):Prop where
 l:B0.length=c.L
 m:∃ xv,bget B1 c.mi=some (mach c.L (.slice (nk c.b) (c.sh.map encShape)) c.mv c.np xv st c.vi)∧XB c.L B1 xv x
 u:bget B1 1=some [.func (.func 58) []]
 v:bget B1 c.vi=some [.ptr c.L c.mi 0]
 r:MB B0 c.mv rows
 f:Fit c.sh rows
 p:PI B1
 c1:calmB B1=true
 c0:calmS B0=true
variable {c:Mc} {x:List Int} {st:Int} {rows:List (List Int)}
theorem MB.s {mv:V} (h:MB B0 mv rows):MemS (base U B1 B0) mv rows:=by
 rcases h with h | ⟨oi,cs,h1,h2,h3,h4,_⟩
 ·exact .inl h
 ·have hp:0 < B0.length:=getBox_lt h2
  refine .inr ⟨oi,cs,h1,by rw [getBox_base0 hp]; exact h2,h3,fun j r hr=>?_⟩
  rcases h4 j r hr with h | ⟨i,h5,h6⟩
  ·exact .inl h
  ·exact .inr ⟨i,h5,by rw [getBox_base0 hp]; exact h6⟩
theorem XB.s {xv:V} (hl:B0.length=L) (h:XB L B1 xv x):XS L (base U B1 B0) xv x:=by
 rcases h with h | ⟨xi,rest,_,h1,h2⟩
 ·exact .inl h
 ·exact .inr ⟨xi,rest,h1,by rw [getBox_base1 hl]; exact h2⟩
theorem MI.rs (h:MI c x st rows B1 B0):∃ xv,XB c.L B1 xv x∧bget B1 c.mi=some (mach c.L (.slice (nk c.b) (c.sh.map encShape)) c.mv c.np xv st c.vi)∧RS c.L c.sh c.b c.mv xv c.np st c.vi c.mi x rows (base U B1 B0):=by
 obtain ⟨xv,h1,h2⟩:=h.m
 exact ⟨xv,h2,h1,by rw [getBox_base1 h.l]; exact h1,by rw [getBox_base1 h.l]; exact h.u,by rw [getBox_base1 h.l]; exact h.v,h2.s h.l,h.r.s⟩
theorem dz_mach {sh mv xv:V} {np st:Int} {vi:Nat}:dz (some (mach L sh mv np xv st vi))=some (mach L sh mv np xv st vi):=rfl
theorem XB.calm {xv:V} (h:XB L B1 xv x):calmC [xv]=true:=by
 rcases h with ⟨_,rfl⟩ | ⟨xi,rest,_,rfl,_⟩<;>rfl
theorem MB.calm {mv:V} (h:MB B0 mv rows):calmC [mv]=true:=by
 rcases h with ⟨_,rfl⟩ | ⟨oi,cs,rfl,_⟩<;>rfl
theorem good_Shape (s:Shape):goodL (encShape s)=true:=by simp only [encShape,goodL,good,goodR_map fun y _=>good_I y,Bool.and_self]
theorem calm_mach {b:Bool} {sh:List Shape} {mv xv:V} {np st:Int} {vi:Nat} (hm:calmC [mv]=true) (hx:calmC [xv]=true):calmC (mach L (.slice (nk b) (sh.map encShape)) mv np xv st vi)=true:=by
 unfold mach
 rw [calmC_slice,calmC_cons,hm,calmC_int,calmC_cons,hx]
 simp only [go_sem,simprocAttr,goodR_map fun s _=>good_Shape s]
theorem ints_mach {sh mv xv:V} {np st:Int} {vi:Nat} {r:List Int} (h:ints r=mach L sh mv np xv st vi) (hs:∀ n,sh≠.int .i64 n):False:=by
 cases r with
 | nil=>cases h
 | cons y r =>
  simp only [ints,List.map_cons,mach,List.cons.injEq] at h
  exact hs _ h.1.symm
end Wp
end AM
end Go.Proofs.Ytimfbnojmdnlnaa
end
section
namespace Go.Proofs.Ytimfbnojmdnlnaa
namespace AM
namespace Wp
variable {U:St} {T:Lev} {B1:List (List V)} {B0:St} {L:Nat} {c:Mc} {x:List Int} {st:Int} {rows:List (List Int)}
def Mc.cells (c:Mc) (xv:V) (st:Int):List V:=mach c.L (.slice (nk c.b) (c.sh.map encShape)) c.mv c.np xv st c.vi
theorem XB.mset {xv:V} {w:List V} {mi:Nat} {xv0:V} {st0:Int} (h:XB c.L B1 xv x) (hm:bget B1 mi=some (c.cells xv0 st0)):XB c.L (bset B1 mi w) xv x:=by
 rcases h with h | ⟨xi,rest,h4,h1,h2⟩
 ·exact .inl h
 ·refine .inr ⟨xi,rest,h4,h1,?_⟩
  rw [bget_ne,h2]
  rintro rfl
  rw [hm] at h2
  exact ints_mach (Option.some.inj h2).symm (by intro n hn; cases hn)
theorem MI.mset (h:MI c x st rows B1 B0) {xv xv':V} {x':List Int} {st':Int} (hm:bget B1 c.mi=some (c.cells xv st)) (hx:XB c.L (bset B1 c.mi (c.cells xv' st')) xv' x'):MI c x' st' rows (bset B1 c.mi (c.cells xv' st')) B0:=by
 have len:∀ {i:Nat} {w:List V},bget B1 i=some w→w.length≠12→i≠c.mi:=by
  rintro i w hi hl rfl
  rw [hm] at hi
  cases hi
  exact hl rfl
 have n1:=len h.u (by simp)
 have n2:=len h.v (by simp)
 have n3:=len h.p.1 (by simp)
 have n4:=len h.p.2 (by simp)
 exact ⟨h.l,⟨xv',bget_set hm dz_mach,hx⟩,by rw [bget_ne n1]; exact h.u,by rw [bget_ne n2]; exact h.v,h.r,h.f,⟨by rw [bget_ne n3]; exact h.p.1,by rw [bget_ne n4]; exact h.p.2⟩,calmB_set h.c1 (calm_mach h.r.calm hx.calm),h.c0⟩
inductive Rs where
 | ok (st:Int) (rows:List (List Int))
 | pan (e:Int)
def EndP (c:Mc) (x:List Int) (B1:List (List V)) (B0:St):Rs→Out→Prop
 | .ok st rows,o=>o=.ret (.tup [])∧MI c x st rows B1 B0
 | .pan e,o=>o=.pan (ended e)∧PI B1∧B0.length=c.L∧calmS B0=true
def EndQ (c:Mc) (x:List Int) (U:St) (r:Rs):Out→St→Prop:=fun o S'=>∃ B1 B0,S'=base U B1 B0∧EndP c x B1 B0 r o
theorem endQ_ok {B1:List (List V)} {B0:St} (h:MI c x st rows B1 B0):EndQ c x U (.ok st rows) (.ret (.tup [])) (base U B1 B0):=⟨_,_,rfl,rfl,h⟩
theorem endQ_pan {e:Int} (h:PI B1) (hl:B0.length=c.L∧calmS B0=true):EndQ c x U (.pan e) (.pan (ended e)) (base U B1 B0):=⟨_,_,rfl,rfl,h,hl⟩
def stepV (st:Int) (rows:List (List Int)):Rs:=if st=65536 then .pan 3 else .ok (wi (st+1)) rows
theorem step_run (h:MI c x st rows B1 B0):CallQ theEnv (.fn 141) [.ptr c.L c.mi 0] (base U B1 B0) (EndQ c x U (stepV st rows)):=by
 obtain ⟨xv,hm,hx⟩:=h.m
 have hm':bget B1 c.mi=some (c.cells xv st):=hm
 have hR:=h.l
 refine CallQ.fn rfl rfl rfl ?_
 simp only [a141,c141,go_sem,simprocAttr,hR,hm,mach]
 rw [Run_if]
 simp only [go_sem,simprocAttr,stepV]
 split
 ·rename_i h1
  exact endQ_pan (e:=3) h.p ⟨h.l,h.c0⟩
 ·rename_i h1
  simp only [go_sem,simprocAttr,hR,hm,mach,setAt_at0,Nat.lt_succ_self]
  exact endQ_ok (h.mset (st':=wi (st+1)) hm' (hx.mset hm'))
def writeV (rows:List (List Int)) (a k:Nat) (v:Int):List (List Int):=rows.set a (((rows[a]?).getD []).set k v)
theorem Fit.wr {sh:List Shape} {a k:Nat} {v:Int} (h:Fit sh rows):Fit sh (writeV rows a k v):=by
 intro j s hs
 obtain ⟨row,h1,h2⟩:=h j s hs
 simp only [writeV,List.getElem?_set]
 by_cases hj:a=j
 ·subst hj
  have hlt:=(List.getElem?_eq_some_iff.1 h1).1
  refine ⟨row.set k v,by rw [if_pos rfl,if_pos hlt,h1]; rfl,fun x subs c hl hc=>?_⟩
  have:=h2 x subs c hl hc
  rw [List.length_set]; exact this
 ·exact ⟨row,by simp [hj,h1],h2⟩
theorem MB.wr {mv:V} (h:MB B0 mv rows) {a k:Nat} {r:List Int} {y:Int} (v:Int) (ha:rows[a]?=some r) (hk:r[k]?=some y) :
  ∃ oi i,(∀ kk:IntKind,iaO 1 mv (.int kk (a:Int))=some (.ptr 0 oi a))∧(onBox (getBox B0 0 oi) a 1 false=some (.bsl 0 i 0 r.length 1 3)) ∧
   (∀ kk:IntKind,iaO 1 (.bsl 0 i 0 r.length 1 3) (.int kk (k:Int))=some (.ptr 0 i k))∧getBox B0 0 i=some (ints r)∧MB (setBox B0 0 i (ints (r.set k v))) mv (writeV rows a k v):=by
 have hlt:=(List.getElem?_eq_some_iff.1 ha).1
 have hlk:=(List.getElem?_eq_some_iff.1 hk).1
 rcases h with ⟨rfl,_⟩ | ⟨oi,cs,rfl,h2,h3,h4,h5⟩
 ·simp at hlt
 ·rcases h4 a r ha with ⟨rfl,_⟩ | ⟨i,h6,h7⟩
  ·simp at hlk
  ·have hne:oi≠i:=by
    rintro rfl
    rw [h2] at h7
    have:=Option.some.inj h7
    rw [this] at h6
    simp [ints] at h6
   refine ⟨oi,i,fun kk=>by rw [iaO_bsl hlt]; simp,by rw [h2]; exact cut_at1 h6 rfl,fun kk=>by rw [iaO_bsl hlk]; simp,h7,?_⟩
   refine .inr ⟨oi,cs,by simp [writeV],by rw [getBox_else hne]; exact h2,by simp [writeV,h3],fun j q hq=>?_,h5⟩
   simp only [writeV,ha,Option.getD_some,List.getElem?_set] at hq
   by_cases hj:a=j
   ·subst hj
    simp only [if_true,hlt] at hq
    cases hq
    refine .inr ⟨i,by rw [List.length_set]; exact h6,getBox_set (dz_ints _) h7⟩
   ·rw [if_neg hj] at hq
    rcases h4 j q hq with h | ⟨i',h8,h9⟩
    ·exact .inl h
    ·refine .inr ⟨i',h8,?_⟩
     rw [getBox_else,h9]
     rintro rfl
     exact hj (h5 _ _ _ _ _ h6 h8)
def assignV (sh:List Shape) (s:Stm) (x:List Int) (st:Int) (rows:List (List Int)):Rs :=
 if st=65536 then .pan 3 else
  match exprV rows sh x s.value with
  | none=>.pan 6
  | some v=>match cellV x s.target.subs ((sh[s.target.a.toNat]?).elim [] (·.sizes)) 0 with
   | none=>.pan 6
   | some k=>.ok (wi (st+1)) (writeV rows s.target.a.toNat k.toNat v)
theorem calm_ints (r:List Int):calmC (ints r)=true:=by
 induction r with
 | nil=>rfl
 | cons y r ih=>simp only [ints,List.map_cons,calmC_int] at ih ⊢; exact ih
theorem assign_run (hxl:x.length≤LIM) {s:Stm} (hs:OkStm s) (he:OkX c.sh x.length s.value) (ht:OkRf c.sh x.length s.target) (stm:Int) (h:MI c x st rows B1 B0) :
  CallQ theEnv (.fn 125) [.ptr c.L c.mi 0, .agg (encStm s), .int .i64 stm] (base U B1 B0) (EndQ c x U (assignV c.sh s x st rows)):=by
 have hfit:=h.f
 have hR0:=h.l
 refine CallQ.fn rfl rfl rfl ?_
 simp only [a125,c125,go_sem,simprocAttr,hR0]
 refine CallPQ (step_run (U:=⟨[encStm s],none⟩::U) h) low0_ptr rfl ?_
 rintro o S' ⟨B1',B0',rfl,hend⟩
 rw [base_up]
 unfold stepV at hend
 unfold assignV
 by_cases h1:st=65536
 ·rw [if_pos h1] at hend ⊢
  obtain ⟨rfl,hp,hl⟩:=hend
  simp only [go_sem,simprocAttr,hl]
  exact ⟨rfl,endQ_pan hp hl⟩
 ·rw [if_neg h1] at hend ⊢
  obtain ⟨rfl,h⟩:=hend
  have hR:=h.l
  obtain ⟨xv,hx,hm,hrs⟩:=h.rs (U:=⟨[encStm s,[.int .i64 0]],none⟩::U)
  simp only [go_sem,simprocAttr,hR,hm,mach]
  refine CallPQ (expr_run (S:=⟨[encStm s,[.int .i64 0]],none⟩::base U B1' B0') hxl hfit stm he hs.value' hrs (show c.L < U.length+(c.L+1) by omega) (by simp only [go_sem,simprocAttr,hR]; rfl)) low0_ptr rfl ?_
  rintro o S' ⟨q,rfl,rfl⟩
  rw [setBox_upb hR]
  cases hv:exprV rows c.sh x s.value with
  | none =>
   simp only [outN,go_sem,simprocAttr,hR]
   exact ⟨rfl,endQ_pan h.p ⟨h.l,h.c0⟩⟩
  | some v =>
   obtain ⟨a,sp,ha,hsp,hl,hc⟩:=ht
   obtain ⟨xv,hx,hm,hrs⟩:=h.rs (U:=⟨[encStm s,[.int .i64 q]],none⟩::U)
   have hcell:=cell_run (S:=⟨[encStm s,[.int .i64 q]],none⟩::base U B1' B0') hs.target' hrs.m hrs.x hxl ha hsp hl hc
   have e1:s.target.a.toNat=a:=by omega
   simp only [outN,go_sem,simprocAttr,hR]
   rw [CallP hcell low0_ptr rfl]
   simp only [e1,hsp,Option.elim]
   cases hcv:cellV x s.target.subs sp.sizes 0 with
   | none =>
    simp only [outN,go_sem,simprocAttr,hR]
    exact ⟨rfl,endQ_pan h.p ⟨h.l,h.c0⟩⟩
   | some k =>
    obtain ⟨row,k,y,h3,rfl,h4,_⟩:=hfit.rd ha hsp hl hcv
    have hlk:=(List.getElem?_eq_some_iff.1 h4).1
    obtain ⟨oi,i,w1,w2,w3,w4,w5⟩:=h.r.wr v h3 h4
    have hst:∀ y,setAt (ints row) k [.int .i64 y]=ints (row.set k y):=fun y=>ints_setAt hlk
    have hle:k+1≤(ints row).length:=by rw [ints_len]; exact hlk
    have hn:MI c x (wi (st+1)) (writeV rows a k v) B1' (setBox B0' 0 i (ints (row.set k v))) :=
     ⟨by rw [len_setBox]; exact h.l,h.m,h.u,h.v,w5,h.f.wr,h.p,h.c1,calmS_set (calm_ints _) h.c0⟩
    have huse:=use_run (S:=⟨[encStm s,[.int .i64 q]],none⟩::base U B1' (setBox B0' 0 i (ints (row.set k v)))) (vi:=c.vi) (mi:=c.mi) (a:=stm) (b:=0) (c:=(a:Int)) (d:=(k:Int)) (e:=v) (by rw [getBox_up1 hn.l]; exact h.u) (by rw [getBox_up1 hn.l]; exact h.v)
    have hp0:0 < B0'.length:=getBox_lt w4
    have hp1:0 < c.L:=by rw [← hR]; exact hp0
    simp only [outN,go_sem,simprocAttr,hR,hp0,hp1,hm,mach,hrs.r.st,hrs.r.tm,ha,w1,w2,w3,w4,hst,hle]
    rw [CallvP huse rfl rfl]
    simp only [go_sem,simprocAttr,hR]
    exact endQ_ok hn
end Wp
end AM
end Go.Proofs.Ytimfbnojmdnlnaa
end
section
namespace Go.Proofs.Ytimfbnojmdnlnaa
namespace AM
namespace Wp
mutual
def asgS (n:Int):Stm→Int
 | ⟨kind,_,_,_,_,_,_,_,_,_,body,_,els⟩=>wi ((if kind=3 then wi (n+1) else n)+wi (asgL 0 body+asgL 0 els))
def asgL (n:Int):List Stm→Int
 | []=>n
 | s::l=>asgL (asgS n s) l
end
theorem asgS_eq (n:Int) (s:Stm):asgS n s=wi ((if s.kind=3 then wi (n+1) else n)+wi (asgL 0 s.body+asgL 0 s.els)):=by cases s; rw [asgS]
def AsgSp (l:List Stm):Prop:=∀ b,Sp theEnv 124 [.slice (nk b) (l.map encStm)] (.int .i64 (asgL 0 l))
theorem asg_list {l:List Stm} (hl:l.length≤LIM) (hs:∀ s∈l,AsgSp s.body∧AsgSp s.els):AsgSp l:=by
 intro b
 refine Sp.fn rfl rfl rfl sx sy fun S=>?_; simp only [a124,c124,go_sem,simprocAttr]
 refine Run_range l.length [6] [3] (fun k vs S'=>∃ n,vs=[.int .i64 n]∧asgL n (l.drop k)=asgL 0 l∧∃ B,S'=⟨B,none⟩::S) (Nat.le_trans hl (by decide)) sx sx rfl rfl rfl rfl sx ⟨0,by simp only [go_sem,simprocAttr],rfl,_,rfl⟩ ?_ ?_
 ·rintro k F _ hk ⟨n,hv,hn,B,rfl⟩ hi hkept
  simp only [go_sem,simprocAttr] at hkept hv
  obtain ⟨s,hsk⟩:∃ s,l[k]?=some s:=⟨l[k],List.getElem?_eq_getElem hk⟩
  obtain ⟨hb,he⟩:=hs s (List.mem_of_getElem? hsk)
  rw [drop_at hsk,asgL,asgS_eq] at hn
  simp only [go_sem,simprocAttr,hkept,hi,hv,iaO_map hsk,(hb _).call,(he _).call]
  rw [Run_if]
  simp only [go_sem,simprocAttr]
  split
  ·rename_i h
   rw [if_pos h] at hn
   simp only [go_sem,simprocAttr,hkept,hv,(hb _).call,(he _).call]
   first | exact hn | exact ⟨_,rfl,hn⟩
  ·rename_i h
   rw [if_neg h] at hn
   simp only [go_sem,simprocAttr,hkept,hv,(hb _).call,(he _).call]
   first | exact hn | exact ⟨_,rfl,hn⟩
 ·rintro F _ ⟨n,hv,hn,B,rfl⟩ hkept
  simp only [go_sem,simprocAttr] at hkept hv
  rw [List.drop_length,asgL] at hn
  simp only [go_sem,simprocAttr,hkept,hv,hn]
theorem asg_stm:∀ s,OkStm s→AsgSp s.body∧AsgSp s.els:=by
 refine Stm.ind fun x ihb ihe hx=>?_
 exact ⟨asg_list hx.bn' fun y hy=>ihb y hy (hx.body' y hy),asg_list hx.en' fun y hy=>ihe y hy (hx.els' y hy)⟩
theorem asgs_ok {l:List Stm} (hl:l.length≤LIM) (hs:∀ s∈l,OkStm s):AsgSp l:=asg_list hl fun s h=>asg_stm s (hs s h)
end Wp
end AM
end Go.Proofs.Ytimfbnojmdnlnaa
end
