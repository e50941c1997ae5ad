/- Validity of expressions, conditions and sets; Names; The leaves of the two checks; Expressions checked; What the check of statements calls; Statements, as the program checks them; Bodies, as the program checks them. -/
import Derived.Test.YtimfbnojmdnlnaaKM5
import Derived.Test.YtimfbnojmdnlnaaKWpC
import Derived.Test.YtimfbnojmdnlnaaKLaH
set_option linter.all false
set_option maxRecDepth 100000
section
namespace Go.Proofs.Ytimfbnojmdnlnaa
namespace AM
namespace Wp
def fits (n:Int):Bool:=decide (-1048576≤n)&&decide (n≤1048576)
theorem num_fits (n:Int):Sp theEnv 130 [.int .i64 n] (.bool (fits n)):=by
 refine Sp.fn rfl rfl rfl sx sy fun S=>?_; simp only [a130,c130,go_sem,simprocAttr]
 rfl
def vLin (x:Lin):Bool:=x.c.all fits&&(decide ((x.c.length:Int)≤12)&&fits x.k)
theorem lin_valid (x:Lin) (hx:OkLin x):Sp theEnv 98 [.agg (encLin x)] (.bool (vLin x)):=by
 refine Sp.fn rfl rfl rfl sx sy fun S=>?_; simp only [a98,c98,go_sem,simprocAttr]
 refine Run_all x.c fits (fun S'=>S'=_) [1,6] hx.c sx sx rfl rfl rfl sx rfl ?_ ?_
 ·rintro k F _ c hc - rfl hi hkept hall
  simp only [go_sem,simprocAttr] at hkept
  simp only [go_sem,simprocAttr,hkept,hi,iaO_map hc,(num_fits c).call,Run_if]
  cases hf:fits c<;>simp only [go_sem,simprocAttr,vLin,hall,hf,implies_true]
 ·rintro F _ hall rfl hkept
  simp only [go_sem,simprocAttr] at hkept
  simp only [go_sem,simprocAttr,hkept,(num_fits _).callG,vLin,hall]
def vCnd (c:Cnd):Bool:=if c.kind=0∨c.kind=1 then decide (c.m=0)&&vLin c.l else if c.kind=2 then decide (1≤c.m)&&decide (c.m≤512)&&vLin c.l else false
theorem cond_valid (x:Cnd) (hx:OkCnd x):Sp theEnv 159 [.agg (encCnd x)] (.bool (vCnd x)):=by
 refine Sp.fn rfl rfl rfl sx sy fun S=>?_; simp only [a159,c159,go_sem,simprocAttr]
 simp only [go_sem,simprocAttr,Run_if,(lin_valid _ hx.l).callG,vCnd]
 grind
def vOver (n:Int) (l:List Cnd):Bool:=l.all fun c=>vCnd c&&decide ((c.l.c.length:Int)=n)
theorem set_over (k:Bool) (l:List Cnd) (n:Int) (hl:l.length≤LIM) (hs:∀ y∈l,OkCnd y):Sp theEnv 156 [.slice (nk k) (l.map encCnd), .int .i64 n] (.bool (vOver n l)):=by
 refine Sp.fn rfl rfl rfl sx sy fun S=>?_; simp only [a156,c156,go_sem,simprocAttr]
 refine Run_all l (fun c=>vCnd c&&decide ((c.l.c.length:Int)=n)) (fun S'=>∃ B,S'=⟨B,none⟩::S) [1,7] hl sx sx rfl rfl rfl sx ⟨_,rfl⟩ ?_ ?_
 ·rintro k F _ c hc hm ⟨B,rfl⟩ hi hkept hall
  simp only [go_sem,simprocAttr] at hkept hall
  simp only [go_sem,simprocAttr,hkept,hi,iaO_map hc,badd_var,setAt_all,List.length_cons,List.length_nil,(cond_valid c (hs c hm)).call,Run_if,vOver]
  grind
 ·rintro F _ hall ⟨B,rfl⟩ hkept
  simp only [go_sem,simprocAttr] at hkept
  simp only [go_sem,simprocAttr,hkept,vOver,hall]
def vSet (s:PSet):Bool:=decide (0≤s.dim)&&decide (s.dim≤12)&&decide ((s.pieces.length:Int)≤400)&&s.pieces.all fun p=>decide ((p.conds.length:Int)≤96)&&vOver s.dim p.conds
theorem set_valid (s:PSet) (hs:OkPSet s):Sp theEnv 142 [.agg (encPSet s)] (.bool (vSet s)):=by
 refine Sp.fn rfl rfl rfl sx sy fun S=>?_; simp only [a142,c142,go_sem,simprocAttr]
 rw [Run_if]
 simp only [go_sem,simprocAttr]
 split
 ·simp only [go_sem,simprocAttr,vSet]
  grind
 ·refine Run_all s.pieces (fun p=>decide ((p.conds.length:Int)≤96)&&vOver s.dim p.conds) (fun S'=>S'=_) [1,20] hs.l sx sx rfl rfl rfl sx rfl ?_ ?_
  ·rintro k F _ c hc hm rfl hi hkept hall
   simp only [go_sem,simprocAttr] at hkept hall
   have hp:=hs.s c hm
   simp only [go_sem,simprocAttr,hkept,hi,iaO_map hc,(set_over c.n c.conds s.dim hp.l hp.s).callG,Run_if,vSet]
   grind
  ·rintro F _ hall rfl hkept
   simp only [go_sem,simprocAttr] at hkept
   simp only [go_sem,simprocAttr,hkept,vSet,hall]
   grind
end Wp
end AM
end Go.Proofs.Ytimfbnojmdnlnaa
end
section
namespace Go.Proofs.Ytimfbnojmdnlnaa
namespace AM
namespace Wp
def isLet (n:Int):Bool:=decide (97≤n)&&decide (n≤122)||decide (65≤n)&&decide (n≤90)
def isDig (n:Int):Bool:=decide (48≤n)&&decide (n≤57)
theorem let_set (n:Int):Sp theEnv 126 [.int .u8 n] (.bool (isLet n)):=by
 refine Sp.fn rfl rfl rfl sx sy fun S=>?_; simp only [a126,c126,go_sem,simprocAttr]
 simp only [isLet]
theorem dig_set (n:Int):Sp theEnv 127 [.int .u8 n] (.bool (isDig n)):=by
 refine Sp.fn rfl rfl rfl sx sy fun S=>?_; simp only [a127,c127,go_sem,simprocAttr]
 simp only [isDig]
theorem sp_contains (a b:ByteArray) (h:a.size < 4294967281):Sp theEnv 128 [.str a, .str b] (.bool (Lib.contains a.data.toList b.data.toList)):={
 s S:=⟨1,fun j hj=>by
  obtain ⟨j,rfl⟩:∃ m,j=m+1:=⟨j - 1,by omega⟩
  have hx:theEnv.ext 128=some containsH:=rfl
  simp only [callN,callBody,hx,containsH,h,if_true]⟩
 a:=rfl
 l:=fun _=>by simp only [go_sem,simprocAttr] }
def chOk (b:UInt8):Bool:=isLet b.toNat||isDig b.toNat
def resWords:List ByteArray:=[⟨#[97,110,100]⟩,⟨#[111,114]⟩,⟨#[116,114,117,101]⟩,⟨#[102,97,108,115,101]⟩,⟨#[102,111,114]⟩,⟨#[116,111]⟩,⟨#[115,116,101,112]⟩,⟨#[105,102]⟩,⟨#[101,108,115,101]⟩,⟨#[109,105,110]⟩,⟨#[109,97,120]⟩,⟨#[102,108,111,111,114]⟩,⟨#[99,101,105,108]⟩,⟨#[97,114,114,97,121]⟩,⟨#[112,97,114,97,109]⟩,⟨#[112,97,114,97,108,108,101,108]⟩,⟨#[118,101,99,116,111,114]⟩]
def resText:ByteArray:=⟨#[32,97,110,100,32,111,114,32,116,114,117,101,32,102,97,108,115,101,32,102,111,114,32,116,111,32,115,116,101,112,32,105,102,32,101,108,115,101,32,109,105,110,32,109,97,120,32,102,108,111,111,114,32,99,101,105,108,32,97,114,114,97,121,32,112,97,114,97,109,32,112,97,114,97,108,108,101,108,32,118,101,99,116,111,114,32]⟩
def vName (s:ByteArray):Bool :=
 match s.data.toList with
 | []=>false
 | b::_=>decide ((s.size:Int)≤12)&&isLet b.toNat&&s.data.toList.all chOk&&resWords.all fun w=>!decide (s=w)
theorem size_list (s:ByteArray):s.data.toList.length=s.size:=Array.length_toList
theorem bin_cat {tk:Nat} {a b:ByteArray} (h:a.size+b.size≤140737488355328):bin .add tk (.str a) (.str b)=some (.str (a++b)):=by simp only [bin,h,if_true]
def vName' (s:ByteArray):Bool :=
 match s.data.toList with
 | []=>false
 | b::_=>decide ((s.size:Int)≤12)&&isLet b.toNat&&s.data.toList.all chOk&&!Lib.contains resText.data.toList ((⟨#[32]⟩++s)++⟨#[32]⟩:ByteArray).data.toList
theorem name_set' (s:ByteArray):Sp theEnv 96 [.str s] (.bool (vName' s)):=by
 cases hl:s.data.toList with
 | nil =>
  have he:s=⟨#[]⟩:=by cases s; simp at hl; rw [hl]
  refine Sp.fn rfl rfl rfl sx sy fun S=>?_; simp only [a96,c96,go_sem,simprocAttr]
  simp only [go_sem,simprocAttr,he,Run_if]
  rfl
 | cons b bs =>
  have hne:¬ s=⟨#[]⟩:=by rintro rfl; simp at hl
  have h0:s.data.toList[0]?=some b:=by rw [hl]; rfl
  refine Sp.fn rfl rfl rfl sx sy fun S=>?_; simp only [a96,c96,go_sem,simprocAttr]
  simp only [go_sem,simprocAttr,hne,sxO_zero h0,(let_set _).callG]
  rw [Run_if]
  simp only [go_sem,simprocAttr]
  split
  ·simp only [go_sem,simprocAttr,vName',hl]
   grind
  ·rename_i hc
   have hsz:s.size≤12:=by grind
   refine Run_all s.data.toList chOk (fun S'=>S'=_) [0] (by rw [size_list]; omega) sx (by simp only [go_sem,simprocAttr,size_list]) rfl rfl rfl sx rfl ?_ ?_
   ·rintro k F _ c hc hm rfl hi hkept hall
    simp only [go_sem,simprocAttr] at hkept
    simp only [go_sem,simprocAttr,hkept,hi,sxO_at hc,(let_set _).call,(dig_set _).callG,Run_if,vName',hl]
    rw [hl] at hall
    grind [chOk]
   ·rintro F _ hall rfl hkept
    simp only [go_sem,simprocAttr] at hkept
    have hcall:=sp_contains resText ((⟨#[32]⟩++s)++⟨#[32]⟩) (by decide)
    unfold resText at hcall
    have h1:(⟨#[32]⟩:ByteArray).size=1:=rfl
    have h2:(⟨#[32]⟩++s:ByteArray).size=s.size+1:=by rw [ByteArray.size_append,h1]; omega
    simp only [go_sem,simprocAttr,hkept,bin_cat (show (⟨#[32]⟩:ByteArray).size+s.size≤140737488355328 by omega),bin_cat (show (⟨#[32]⟩++s:ByteArray).size+(⟨#[32]⟩:ByteArray).size≤140737488355328 by omega),hcall.call,vName',hl]
    rw [hl] at hall
    rw [hall]
    unfold resText
    grind
def cat:List (List UInt8)→List UInt8
 | []=>[32]
 | w::ws=>32::(w++cat ws)
theorem contains_nil (c:UInt8) (t:List UInt8):Lib.contains [] (c::t)=false:=rfl
theorem contains_cons (b:UInt8) (l sub:List UInt8):Lib.contains (b::l) sub=(sub.isPrefixOf (b::l)||Lib.contains l sub):=by
 have h:=Lib.index_ge l sub
 unfold Lib.contains
 rw [Lib.index]
 by_cases hp:sub.isPrefixOf (b::l)=true
 ·simp [hp]
 ·simp only [hp,Bool.false_eq_true,if_false,Bool.false_or]
  by_cases hi:Lib.index l sub=-1
  ·simp [hi]
  ·have:(Lib.index l sub == -1)=false:=by simpa using hi
   simp only [this,Bool.false_eq_true,if_false]
   rw [decide_eq_decide]
   omega
theorem contains_skip {t l:List UInt8}:∀ {w:List UInt8},(∀ b∈w,b≠32)→Lib.contains (w++l) (32::t)=Lib.contains l (32::t)
 | [],_=>rfl
 | b::w,h=>by
  rw [List.cons_append,contains_cons,contains_skip fun c hc=>h c (List.mem_cons_of_mem _ hc)]
  have:((32:UInt8) == b)=false:=by simpa using (h b List.mem_cons_self).symm
  simp [List.isPrefixOf,this]
theorem prefix_word {l:List UInt8}:∀ {s w:List UInt8},(∀ b∈s,b≠32)→(∀ b∈w,b≠32)→(s++[32]).isPrefixOf (w++32::l)=decide (s=w)
 | [],[],_,_=>by simp [List.isPrefixOf]
 | [],b::w,_,h=>by
  have:((32:UInt8) == b)=false:=by simpa using (h b List.mem_cons_self).symm
  simp [List.isPrefixOf,this]
 | b::s,[],h,_=>by
  have:(b == (32:UInt8))=false:=by simpa using h b List.mem_cons_self
  simp [List.isPrefixOf,this]
 | b::s,c::w,h1,h2=>by
  have ih:=prefix_word (l:=l) (s:=s) (w:=w) (fun d hd=>h1 d (List.mem_cons_of_mem _ hd)) (fun d hd=>h2 d (List.mem_cons_of_mem _ hd))
  simp only [List.cons_append,List.isPrefixOf,ih]
  by_cases hb:b=c
  ·subst hb; simp
  ·simp [hb]
theorem cat_head:∀ ws, ∃ l,cat ws=32::l
 | []=>⟨[],rfl⟩
 | w::ws=>⟨_,rfl⟩
theorem contains_cat {s:List UInt8} (hs:∀ b∈s,b≠32):∀ {ws:List (List UInt8)},(∀ w∈ws, ∀ b∈w,b≠32)→Lib.contains (cat ws) (32::(s++[32]))=ws.any fun w=>decide (s=w)
 | [],_=>by
  rw [cat,contains_cons,contains_nil]
  cases s<;>simp [List.isPrefixOf]
 | w::ws,h=>by
  obtain ⟨l,hl⟩:=cat_head ws
  rw [cat,contains_cons,contains_skip (h w List.mem_cons_self),contains_cat hs fun v hv=>h v (List.mem_cons_of_mem _ hv)]
  simp only [List.isPrefixOf,beq_self_eq_true,Bool.true_and,List.any_cons]
  rw [hl,prefix_word hs (h w List.mem_cons_self)]
theorem res_cat:resText.data.toList=cat (resWords.map fun w=>w.data.toList):=rfl
theorem res_no32:∀ w∈resWords.map (fun w=>w.data.toList), ∀ b∈w,b≠32:=by decide
theorem ba_ext {a b:ByteArray}:a.data.toList=b.data.toList ↔ a=b:=by
 constructor
 ·intro h
  cases a; cases b
  simp only [ByteArray.mk.injEq]
  exact Array.ext' h
 ·rintro rfl; rfl
theorem vName_eq (s:ByteArray):vName' s=vName s:=by
 unfold vName' vName
 cases hl:s.data.toList with
 | nil=>rfl
 | cons b bs =>
  simp only
  cases hall:(b::bs).all chOk with
  | false=>simp only [Bool.and_false,Bool.false_and]
  | true =>
   have hno:∀ b∈s.data.toList,b≠32:=by
    rw [hl]
    intro c hc
    have:=List.all_eq_true.1 hall c hc
    rintro rfl
    exact absurd this (by decide)
   have hcat:((⟨#[32]⟩++s)++⟨#[32]⟩:ByteArray).data.toList=32::(s.data.toList++[32]):=by simp
   rw [hcat,res_cat,contains_cat hno res_no32]
   congr 1
   rw [List.any_map,List.not_any_eq_all_not]
   congr 1
   funext w
   simp only [Function.comp,ba_ext]
theorem name_set (s:ByteArray):Sp theEnv 96 [.str s] (.bool (vName s)):=vName_eq s ▸ name_set' s
end Wp
end AM
end Go.Proofs.Ytimfbnojmdnlnaa
end
section
namespace Go.Proofs.Ytimfbnojmdnlnaa
namespace AM
namespace Wp
section
variable {E:Env} {ks:List KI} {F:Fr} {S R:St} {Q:Ex→Fr→St→Prop} {cn:Cn} {bs:List Blk} {d:Option Nat} {L:List (List V)} {lp:Option Lp}
def stop:V:=.ifc 86 (.agg [])
def outIf (b:Bool):Out:=if b then .ret (.tup []) else .pan stop
@[go_sem] theorem outIf_t:outIf true=.ret (.tup []):=_root_.id rfl
@[go_sem] theorem outIf_f:outIf false=.pan stop:=_root_.id rfl
@[go_sem] theorem ret_outIf {b:Bool}:(Out.ret (.tup [])=outIf b)=(b=true):=by cases b<;>simp [outIf]
@[go_sem] theorem pan_outIf {b:Bool}:(Out.pan stop=outIf b)=(b=false):=by cases b<;>simp [outIf]
@[go_sem] theorem low_stop {n:Nat}:low n stop=true:=by simp [stop,low,lowL]
@[go_sem] theorem backW_outIf {b:Bool} {ok:Fr→St→Prop} {pan:V→St→Prop}:backW F d ok pan (outIf b) (⟨L,none⟩::R)=if b=true then ok (putO F d (.tup [])) (⟨L,none⟩::R) else pan stop (⟨L,none⟩::R):=by cases b<;>rfl
structure SpC (E:Env) (f:Nat) (args:List V) (b:Bool):Prop where
 s:∀ S,CallIs E (.fn f) args S (outIf b) S
 a:lowL 0 args=true
theorem SpC.fn {f:Nat} {af:AFunc} {args:List V} {b:Bool} (hx:E.ext f=none) (hf:E.fn f=some af) (hn:args.length=af.np) (ha:lowL 0 args=true)
  (h:∀ S,Run E [.c af.body] (args0 args) (⟨[],none⟩::S) (Fin af.res fun o S'=>o=outIf b∧S'=S)):SpC E f args b:={
 s S:=by
  obtain ⟨o,S',hc,rfl,rfl⟩:=CallQ.fn hx hf hn (h S)
  exact hc
 a:=ha }
theorem SpC.call {f:Nat} {args:List V} {b:Bool} (h:SpC E f args b):Call E f args d (.s bs) ks F S Q=if b=true then Wk E (.s bs) ks (putO F d (.tup [])) S Q else RunE E ks (.pan stop) F S Q:=by
 simp only [Call,callK,h.a,if_true]
 rw [(h.s []).q]
 cases b<;>simp [outIf,low_stop,low,lowL]
end
theorem need_ok (b:Bool):SpC theEnv 64 [.bool b] b:=by
 refine SpC.fn rfl rfl rfl sx fun S=>?_
 simp only [a64,c64,go_sem,simprocAttr]
 cases b<;>simp only [go_sem,simprocAttr]
 simp only [go_sem,simprocAttr,stop]
def zLin (x:Lin):Bool:=decide ((x.c.length:Int)=0)&&decide (x.k=0)
def zRef (x:Ref):Bool:=decide (x.a=0)&&decide ((x.subs.length:Int)=0)
def zExp (x:Exp):Bool:=decide (x.op=0)&&decide (x.k=0)&&zLin x.l&&zRef x.r&&decide ((x.args.length:Int)=0)
def zSet (x:PSet):Bool:=decide (x.dim=0)&&decide ((x.pieces.length:Int)=0)
def zLoop (x:Stm):Bool:=decide (x.name=⟨#[]⟩)&&decide ((x.low.parts.length:Int)=0)&&decide ((x.high.parts.length:Int)=0)&&decide (x.step=0)&&decide (x.mark=0)
theorem plainLin_ok (x:Lin):Sp theEnv 192 [.agg (encLin x)] (.bool (zLin x)):=by
 refine Sp.fn rfl rfl rfl sx sy fun S=>?_; simp only [a192,c192,go_sem,simprocAttr]
 simp only [zLin,go_sem,simprocAttr]
theorem plainRef_ok (x:Ref):Sp theEnv 189 [.agg (encRef x)] (.bool (zRef x)):=by
 refine Sp.fn rfl rfl rfl sx sy fun S=>?_; simp only [a189,c189,go_sem,simprocAttr]
 simp only [zRef,go_sem,simprocAttr]
theorem plainExp_ok (x:Exp):Sp theEnv 190 [.agg (encExp x)] (.bool (zExp x)):=by
 refine Sp.fn rfl rfl rfl sx sy fun S=>?_; simp only [a190,c190,go_sem,simprocAttr]
 simp only [zExp,go_sem,simprocAttr,(plainLin_ok _).callG,(plainRef_ok _).callG]
theorem unset_ok (x:PSet):Sp theEnv 188 [.agg (encPSet x)] (.bool (zSet x)):=by
 refine Sp.fn rfl rfl rfl sx sy fun S=>?_; simp only [a188,c188,go_sem,simprocAttr]
 simp only [zSet,go_sem,simprocAttr]
theorem blank_ok (x:Stm):Sp theEnv 194 [.agg (encStm x)] (.bool (zLoop x)):=by
 refine Sp.fn rfl rfl rfl sx sy fun S=>?_; simp only [a194,c194,go_sem,simprocAttr]
 simp only [zLoop,go_sem,simprocAttr]
def vOverL (n:Int) (l:Lin):Bool:=decide ((l.c.length:Int)=n)&&vLin l
theorem over_ok (l:Lin) (n:Int) (hl:OkLin l):Sp theEnv 66 [.agg (encLin l), .int .i64 n] (.bool (vOverL n l)):=by
 refine Sp.fn rfl rfl rfl sx sy fun S=>?_; simp only [a66,c66,go_sem,simprocAttr]
 simp only [go_sem,simprocAttr,vOverL,(lin_valid l hl).callG]
def vRow (n:Int) (r:Rw):Bool:=vOverL n r.l&&decide (1≤r.div)&&decide (r.div≤512)
def vPart (n:Int) (p:Part):Bool:=decide (1≤(p.rows.length:Int))&&decide ((p.rows.length:Int)≤96)&&p.rows.all (vRow n)
def vBound (n:Int) (b:Bound):Bool:=decide (1≤(b.parts.length:Int))&&decide ((b.parts.length:Int)≤400)&&b.parts.all (vPart n)
theorem bound_ok (b:Bound) (n:Int) (hb:OkBound b):SpC theEnv 187 [.agg (encBound b), .int .i64 n] (vBound n b):=by
 refine SpC.fn rfl rfl rfl sx fun S=>?_
 simp only [a187,c187,go_sem,simprocAttr,(need_ok _).call]
 split
 ·refine Run_all b.parts (vPart n) (fun S'=>∃ B,S'=⟨encBound b::B,none⟩::S) [1,20] hb.l sx sx rfl rfl rfl sx ⟨_,rfl⟩ ?_ ?_
  ·rintro k F _ p hp hm ⟨B,rfl⟩ hi hkept hall
   simp only [go_sem,simprocAttr] at hkept hall
   have hpo:=hb.s p hm
   simp only [go_sem,simprocAttr,hkept,hi,iaO_map hp,(need_ok _).call]
   split
   ·refine Run_all p.rows (vRow n) (fun S'=>∃ B,S'=⟨encBound b::B,none⟩::S) [1,20,22,35] hpo.l (by simp only [go_sem,simprocAttr,hkept,hi]) (by simp only [go_sem,simprocAttr,hkept,hi]) rfl rfl rfl (by simp only [go_sem,simprocAttr,hkept,hi]) ⟨_,rfl⟩ ?_ ?_
    ·rintro k F _ r hr hm ⟨B,rfl⟩ hi2 hkept2 hall2
     simp only [go_sem,simprocAttr,hkept,hi] at hkept2 hall2
     have hro:=hpo.s r hm
     simp only [go_sem,simprocAttr,hkept2,hi2,iaO_map hr,(over_ok r.l n hro.l).call,(need_ok _).call,vRow,vBound]
     grind [vRow,vPart]
    ·rintro F _ hall2 ⟨B,rfl⟩ hkept2
     simp only [go_sem,simprocAttr,hkept,hi] at hkept2
     simp only [go_sem,simprocAttr,hkept2,vPart,hall2]
     assumption
   ·simp only [go_sem,simprocAttr,vBound]
    grind [vRow,vPart]
  ·rintro F _ hall ⟨B,rfl⟩ hkept
   simp only [go_sem,simprocAttr] at hkept
   simp only [go_sem,simprocAttr,hkept,vBound,hall]
   assumption
 ·simp only [go_sem,simprocAttr,vBound]
  grind
def encChk (p:Prg) (st:Int):List V:=encPrg p++[.int .i64 st]
section
variable {p:Prg} {st:Int}
@[go_sem] theorem len_Chk:(encChk p st).length=4:=by simp [encChk,len_Prg]
@[go_sem] theorem dz_Chk:dz (some (encChk p st))=some (encChk p st):=dz_len (by rw [len_Chk]; decide)
theorem cut_app {xs ys:List V} {o n:Nat} {g:Bool} (h:o+n≤xs.length):cutV (xs++ys) o n g=cutV xs o n g:=by
 have h2:cutL (xs++ys) o n=cutL xs o n:=by
  unfold cutL
  rw [if_pos h,if_pos (by simp; omega),List.drop_append_of_le_length (by omega),List.take_append_of_le_length (by simp; omega)]
 simp only [cutV,h2]
@[go_sem] theorem f_Chk_0:cutV (encChk p st) 0 1 false=some (.slice (nk p.pn) (p.params.map encS)):=by rw [encChk,cut_app (by simp [len_Prg]),f_Prg_0]
@[go_sem] theorem f_Chk_1:cutV (encChk p st) 1 1 false=some (.slice (nk p.an) (p.arrays.map encArr)):=by rw [encChk,cut_app (by simp [len_Prg]),f_Prg_1]
@[go_sem] theorem f_Chk_3:cutV (encChk p st) 3 1 false=some (.int .i64 st):=by cases p; rfl
@[go_sem] theorem set_Chk {m:Int}:setAt (encChk p st) 3 [.int .i64 m]=encChk p m:=by cases p; rfl
end
theorem CallIs.fn {E:Env} {f:Nat} {af:AFunc} {args:List V} {S S1:St} {o:Out} (hx:E.ext f=none) (hf:E.fn f=some af) (hn:args.length=af.np)
  (h:Run E [.c af.body] (args0 args) (⟨[],none⟩::S) (Fin af.res fun o' S'=>o'=o∧S'=S1)):CallIs E (.fn f) args S o S1:=by
 obtain ⟨o,S',hc,rfl,rfl⟩:=CallQ.fn hx hf hn h
 exact hc
def vCell (p:Prg) (n:Int) (r:Ref):Bool:=decide (0≤r.a)&&match p.arrays[r.a.toNat]? with | some A=>decide (r.subs.length=A.sizes.length)&&r.subs.all (vOverL n) | none=>false
theorem cell_at {α:Type} {l:List α} {a:Int} (h0:0≤a) (h1:a < l.length):∃ (k:Nat) (x:α),a=(k:Int)∧l[k]?=some x∧k < l.length:=by
 refine ⟨a.toNat,l[a.toNat]'(by omega),by omega,List.getElem?_eq_getElem _,by omega⟩
theorem cell_ok {p:Prg} {st:Int} {r:Ref} {n:Int} {S:St} {l ci:Nat} (hr:OkRef r) (hb:getBox S l ci=some (encChk p st)):CallIs theEnv (.fn 196) [.ptr l ci 0, .agg (encRef r), .int .i64 n] S (outIf (vCell p n r)) S:=by
 refine CallIs.fn rfl rfl rfl ?_
 have hup:=fun T=>getBox_up (T:=T) hb
 simp only [a196,c196,go_sem,simprocAttr]
 by_cases h0:0≤r.a
 ·by_cases h1:r.a < p.arrays.length
  ·obtain ⟨k,A,hk,hA,hlt⟩:=cell_at h0 h1
   simp only [go_sem,simprocAttr,h0,h1,hup]
   rw [hk]
   simp only [go_sem,simprocAttr,iaO_map hA,(need_ok _).call]
   have hv:vCell p n r=(decide (r.subs.length=A.sizes.length)&&r.subs.all (vOverL n)):=by simp [vCell,hk,hA]
   split
   ·rename_i hsz
    refine Run_all r.subs (vOverL n) (fun S'=>∃ B,S'=⟨encRef r::B,none⟩::S) [2,41] hr.l sx sx rfl rfl rfl sx ⟨_,rfl⟩ ?_ ?_
    ·rintro k F _ x hx hm ⟨B,rfl⟩ hi hkept hall
     simp only [go_sem,simprocAttr] at hkept hall
     simp only [go_sem,simprocAttr,hkept,hi,iaO_map hx,(over_ok x n (hr.s x hm)).call,(need_ok _).call,hv]
     grind
    ·rintro F _ hall ⟨B,rfl⟩ hkept
     simp only [go_sem,simprocAttr,hv,hall]
     assumption
   ·simp only [go_sem,simprocAttr,hv]
    grind
  ·simp only [go_sem,simprocAttr,h0,h1,hup,(need_ok _).call,vCell]
   rw [List.getElem?_eq_none (by omega)]
 ·simp only [go_sem,simprocAttr,h0,hup,(need_ok _).call,vCell]
end Wp
end AM
end Go.Proofs.Ytimfbnojmdnlnaa
end
section
namespace Go.Proofs.Ytimfbnojmdnlnaa
namespace AM
namespace Wp
def leafOk (p:Prg) (n:Int) (x:Exp):Bool :=
 if x.op=0 then decide (-2147483648≤x.k)&&decide (x.k < 2147483648)&&decide ((x.args.length:Int)=0)
 else if x.op=1 then vOverL n x.l&&decide ((x.args.length:Int)=0)
 else decide ((x.args.length:Int)=0)&&vCell p n x.r
def headOk (x:Exp) (m:Int):Bool:=(decide (m≤64)&&decide (0≤x.op)&&decide (x.op≤7))&&(decide (x.op=0)||decide (x.k=0))&&(decide (x.op=1)||zLin x.l)&&(decide (x.op=2)||zRef x.r)
def chkNode (p:Prg) (n:Int) (x:Exp) (m:Int):Bool×Int :=
 if headOk x (m+1)=true then
  if x.op=0∨x.op=1∨x.op=2 then (leafOk p n x,m+1)
  else match x with
   | ⟨_,_,_,_,_,[a,b]⟩=>if (chkNode p n a (m+1)).1=true then chkNode p n b (chkNode p n a (m+1)).2 else (false,(chkNode p n a (m+1)).2)
   | _=>(false,m+1)
 else (false,m+1)
 termination_by SizeOf.sizeOf x
theorem chkNode_two {p:Prg} {n:Int} {x a b:Exp} {m:Int} (hh:headOk x (m+1)=true) (h0:x.op≠0) (h1:x.op≠1) (h2:x.op≠2) (ha:x.args=[a,b]) :
  chkNode p n x m=if (chkNode p n a (m+1)).1=true then chkNode p n b (chkNode p n a (m+1)).2 else (false,(chkNode p n a (m+1)).2):=by
 obtain ⟨op,k,l,r,nn,args⟩:=x
 simp only at ha h0 h1 h2
 subst ha
 rw [chkNode]
 simp only [hh,if_true,h0,h1,h2,or_self,if_false]
theorem chkNode_not {p:Prg} {n:Int} {x:Exp} {m:Int} (hh:headOk x (m+1)=true) (h0:x.op≠0) (h1:x.op≠1) (h2:x.op≠2) (ha:∀ a b,x.args≠[a,b]) :
  chkNode p n x m=(false,m+1):=by
 obtain ⟨op,k,l,r,nn,args⟩:=x
 simp only at ha h0 h1 h2
 rw [chkNode]
 simp only [hh,if_true,h0,h1,h2,or_self,if_false]
 intro _ _ _ _ _ a b h
 simp only [Exp.mk.injEq] at h
 exact ha _ _ h.2.2.2.2.2
theorem chkNode_leaf {p:Prg} {n:Int} {x:Exp} {m:Int} (hh:headOk x (m+1)=true) (h:x.op=0∨x.op=1∨x.op=2):chkNode p n x m=(leafOk p n x,m+1):=by
 rw [chkNode.eq_def]; simp only [hh,if_true,h]
theorem chkNode_bad {p:Prg} {n:Int} {x:Exp} {m:Int} (hh:headOk x (m+1)=false):chkNode p n x m=(false,m+1):=by
 rw [chkNode.eq_def]; simp [hh]
theorem chkNode_bound {p:Prg} {n:Int}:∀ (x:Exp) (m:Int),(chkNode p n x m).1=true→m < (chkNode p n x m).2∧(chkNode p n x m).2≤64:=by
 refine Exp.ind fun x ih m h=>?_
 cases hh:headOk x (m+1) with
 | false=>rw [chkNode_bad hh] at h; cases h
 | true =>
  have hm:m+1≤64:=by simp only [headOk,Bool.and_eq_true,decide_eq_true_eq] at hh; exact hh.1.1.1.1.1
  by_cases h3:x.op=0∨x.op=1∨x.op=2
  ·rw [chkNode_leaf hh h3]; simp only; omega
  ·simp only [not_or] at h3
   by_cases hab:∃ a b,x.args=[a,b]
   ·obtain ⟨a,b,hab⟩:=hab
    rw [chkNode_two hh h3.1 h3.2.1 h3.2.2 hab] at h ⊢
    split at h
    ·rename_i ha
     have h1:=ih a (by simp [hab]) _ ha
     have h2:=ih b (by simp [hab]) _ h
     rw [if_pos ha]; omega
    ·cases h
   ·rw [chkNode_not hh h3.1 h3.2.1 h3.2.2 fun a b h=>hab ⟨a,b,h⟩] at h; cases h
theorem node_ok {p:Prg} {st n:Int} {l ci l' ni:Nat} (hne:¬(l=l'∧ci=ni)):∀ (x:Exp),OkExp x→∀ (m:Int) (S:St),0≤m→m≤64→getBox S l ci=some (encChk p st)→getBox S l' ni=some [.int .i64 m] →
  CallIs theEnv (.fn 197) [.ptr l ci 0, .agg (encExp x), .int .i64 n, .ptr l' ni 0] S (outIf (chkNode p n x m).1) (setBox S l' ni [.int .i64 (chkNode p n x m).2]):=by
 refine Exp.ind fun x ih hx m S hm0 hm1 hb hb'=>?_
 refine CallIs.fn rfl rfl rfl ?_
 have g1:=fun T=>getBox_up (T:=T) hb'
 have g2:=fun T v=>setBox_up (T:=T) (v:=v) hb'
 have g3:∀ v,dz (some v)=some v→getBox (setBox S l' ni v) l' ni=some v:=fun v hv=>getBox_set hv hb'
 have g4:∀ v,getBox (setBox S l' ni v) l ci=some (encChk p st):=fun v=>by rw [getBox_other hne]; exact hb
 have g5:=fun T v hv=>getBox_up (T:=T) (g3 v hv)
 have g6:=fun T v=>getBox_up (T:=T) (g4 v)
 have g7:∀ T v w,setBox (T::setBox S l' ni v) l' ni w=T::setBox S l' ni w:=fun T v w=>by rw [setBox_below (by rw [len_setBox]; have:=getBox_lt hb'; omega),setBox_setBox]
 have hw:IntKind.i64.wrap (m+1)=m+1:=wrap64 (by omega) (by omega)
 simp only [a197,c197,go_sem,simprocAttr,g1,g2,g5,hw,(need_ok _).call,(plainLin_ok _).callG,(plainRef_ok _).callG]
 have bad:headOk x (m+1)=false→(chkNode p n x m).1=false∧setBox S l' ni [.int .i64 (m+1)]=setBox S l' ni [.int .i64 (chkNode p n x m).2]:=fun hh=>by rw [chkNode_bad hh]; exact ⟨rfl,rfl⟩
 split
 ·rename_i c1
  split
  ·rename_i c2
   split
   ·rename_i c3
    split
    ·rename_i c4
     have hh:headOk x (m+1)=true:=by simp only [headOk]; grind
     have leaf:(x.op=0∨x.op=1∨x.op=2)→chkNode p n x m=(leafOk p n x,m+1):=chkNode_leaf hh
     by_cases h0:x.op=0
     ·simp only [go_sem,simprocAttr,h0,(need_ok _).call,leaf (.inl h0),leafOk]
      grind
     by_cases h1:x.op=1
     ·simp only [go_sem,simprocAttr,h1,(need_ok _).call,leaf (.inr (.inl h1)),leafOk,(over_ok _ _ hx.l').call]
      grind
     by_cases h2:x.op=2
     ·simp only [go_sem,simprocAttr,h2,(need_ok _).call,leaf (.inr (.inr h2)),leafOk]
      split
      ·rename_i ha
       rw [CallP (cell_ok hx.r' (g6 _ _)) sx sx]
       simp only [go_sem,simprocAttr]
       grind
      ·grind
     by_cases hab:∃ a b,x.args=[a,b]
     ·obtain ⟨a,b,hab⟩:=hab
      have hm:m+1≤64:=c1.1.1
      have ha:=hx.s' a (by simp [hab])
      have hb2:=hx.s' b (by simp [hab])
      have ca:=fun T=>ih a (by simp [hab]) ha (m+1) (T::setBox S l' ni [.int .i64 (m+1)]) (by omega) hm (g6 T _) (g5 T _ rfl)
      simp only [go_sem,simprocAttr,h0,h1,h2,(need_ok _).call,hab,CallP (ca _),g7]
      rw [chkNode_two hh h0 h1 h2 hab]
      split
      ·rename_i hra
       have hbd:=chkNode_bound _ _ hra
       have cb:=fun T=>ih b (by simp [hab]) hb2 (chkNode p n a (m+1)).2 (T::setBox S l' ni [.int .i64 (chkNode p n a (m+1)).2]) (by omega) hbd.2 (g6 T _) (g5 T _ rfl)
       simp only [go_sem,simprocAttr,CallP (cb _),g7]
       split<;>simp_all only [Bool.not_eq_true]
      ·exact ⟨rfl,rfl⟩
     ·have hl:¬ x.args.length=2:=fun h=>hab (by
       match hx:x.args,h with
       | [a,b],_=>exact ⟨a,b,rfl⟩)
      have hl':¬ (x.args.length:Int)=2:=by omega
      simp only [go_sem,simprocAttr,h0,h1,h2,(need_ok _).call,hl']
      rw [chkNode_not hh h0 h1 h2 fun a b h=>hab ⟨a,b,h⟩]
      simp only [go_sem,simprocAttr]
    ·exact bad (by simp only [headOk]; grind)
   ·exact bad (by simp only [headOk]; grind)
  ·exact bad (by simp only [headOk]; grind)
 ·exact bad (by simp only [headOk]; grind)
mutual
def cntE:Exp→Nat
 | ⟨_,_,_,_,_,args⟩=>1+cntEs args
def cntEs:List Exp→Nat
 | []=>0
 | x::xs=>cntE x+cntEs xs
end
mutual
def nodesE:Exp→Nat
 | ⟨_,_,_,_,_,args⟩=>nodesEs 1 args
def nodesEs (n:Nat):List Exp→Nat
 | []=>n
 | x::xs=>nodesEs (if n < 1000 then n+nodesE x else n) xs
end
theorem nodesEs_le {n:Nat}:∀ {xs:List Exp},n≤nodesEs n xs
 | []=>Nat.le_refl _
 | x::xs=>by
  simp only [nodesEs]
  refine Nat.le_trans ?_ nodesEs_le
  split<;>omega
theorem nodes_eq:∀ x,nodesE x≤cntE x∧(nodesE x < 1000→nodesE x=cntE x):=by
 refine Exp.ind fun x ih=>?_
 obtain ⟨op,k,l,r,nn,args⟩:=x
 simp only at ih
 have key:∀ (xs:List Exp) (n:Nat),(∀ y∈xs,nodesE y≤cntE y∧(nodesE y < 1000→nodesE y=cntE y))→nodesEs n xs≤n+cntEs xs∧(nodesEs n xs < 1000→nodesEs n xs=n+cntEs xs):=by
  intro xs
  induction xs with
  | nil=>intro n _; simp [nodesEs,cntEs]
  | cons x xs ihx =>
   intro n h
   have h1:=h x List.mem_cons_self
   simp only [nodesEs,cntEs]
   by_cases hn:n < 1000
   ·rw [if_pos hn]
    have h2:=ihx (n+nodesE x) fun y hy=>h y (List.mem_cons_of_mem _ hy)
    refine ⟨by omega,fun h3=>?_⟩
    have h4:=h2.2 h3
    have:nodesE x < 1000:=by have:=nodesEs_le (n:=n+nodesE x) (xs:=xs); omega
    have:=h1.2 this
    omega
   ·rw [if_neg hn]
    have h2:=ihx n fun y hy=>h y (List.mem_cons_of_mem _ hy)
    refine ⟨by omega,fun h3=>?_⟩
    have:=nodesEs_le (n:=n) (xs:=xs)
    omega
 exact key args 1 ih
theorem cntE_args {x:Exp}:cntE x=1+cntEs x.args:=by cases x; rfl
theorem take_snoc {α:Type} {l:List α} {k:Nat} {x:α} (h:l[k]?=some x):l.take (k+1)=l.take k++[x]:=by
 rw [List.take_add_one,h]; rfl
def exprOk (p:Prg) (n:Int) (x:Exp):Bool :=
 if x.op=0 then decide (-2147483648≤x.k)&&decide (x.k < 2147483648)&&zLin x.l&&zRef x.r&&decide ((x.args.length:Int)=0)
 else if x.op=1 then decide (x.k=0)&&vOverL n x.l&&zRef x.r&&decide ((x.args.length:Int)=0)
 else if x.op=2 then decide (x.k=0)&&zLin x.l&&vCell p n x.r&&decide ((x.args.length:Int)=0)
 else if x.op=3∨x.op=4∨x.op=5∨x.op=6∨x.op=7 then match x with
  | ⟨_,k,l,r,_,[a,b]⟩=>decide (k=0)&&zLin l&&zRef r&&exprOk p n a&&exprOk p n b
  | _=>false
 else false
 termination_by SizeOf.sizeOf x
theorem exprOk_two {p:Prg} {n:Int} {x a b:Exp} (h:x.op=3∨x.op=4∨x.op=5∨x.op=6∨x.op=7) (ha:x.args=[a,b]):exprOk p n x=(decide (x.k=0)&&zLin x.l&&zRef x.r&&exprOk p n a&&exprOk p n b):=by
 obtain ⟨op,k,l,r,nn,args⟩:=x
 simp only at ha h
 subst ha
 rw [exprOk]
 have h0:¬op=0:=by omega
 have h1:¬op=1:=by omega
 have h2:¬op=2:=by omega
 simp only [h0,h1,h2,h,if_true,if_false]
theorem exprOk_not {p:Prg} {n:Int} {x:Exp} (h:x.op=3∨x.op=4∨x.op=5∨x.op=6∨x.op=7) (ha:∀ a b,x.args≠[a,b]):exprOk p n x=false:=by
 obtain ⟨op,k,l,r,nn,args⟩:=x
 simp only at ha h
 have h0:¬op=0:=by omega
 have h1:¬op=1:=by omega
 have h2:¬op=2:=by omega
 rw [exprOk]
 ·simp only [h0,h1,h2,h,if_true,if_false]
 ·intro _ _ _ _ _ a b h
  simp only [Exp.mk.injEq] at h
  exact ha _ _ h.2.2.2.2.2
theorem two_or {x:Exp}:(∃ a b,x.args=[a,b])∨((∀ a b,x.args≠[a,b])∧¬ (x.args.length:Int)=2):=by
 by_cases h:x.args.length=2
 ·left
  match hx:x.args,h with
  | [a,b],_=>exact ⟨a,b,rfl⟩
 ·right
  exact ⟨fun a b hab=>h (by rw [hab]; rfl),by omega⟩
theorem node_expr {p:Prg} {n:Int}:∀ (x:Exp) (m:Int),(chkNode p n x m).1=(exprOk p n x&&decide (m+cntE x≤64))∧((chkNode p n x m).1=true→(chkNode p n x m).2=m+cntE x):=by
 refine Exp.ind fun x ih m=>?_
 have hcnt:=cntE_args (x:=x)
 have hz:((x.args.length:Int)=0)→cntEs x.args=0:=fun h=>by
  have:x.args=[]:=List.length_eq_zero_iff.1 (by omega)
  rw [this]; rfl
 cases hh:headOk x (m+1) with
 | false =>
  rw [chkNode_bad hh]
  refine ⟨?_,fun h=>by cases h⟩
  by_cases hm:m+1≤64
  ·have he:exprOk p n x=false:=by
    simp only [headOk] at hh
    by_cases h3:x.op=3∨x.op=4∨x.op=5∨x.op=6∨x.op=7
    ·rcases two_or (x:=x) with ⟨a,b,hab⟩ | ⟨hab,hl⟩
     ·rw [exprOk_two h3 hab]
      grind
     ·exact exprOk_not h3 hab
    ·rw [exprOk.eq_def]
     simp only [h3,if_false]
     grind
   simp only [he,Bool.false_and]
  ·have:¬ m+(cntE x:Int)≤64:=by omega
   simp only [this,decide_false,Bool.and_false]
 | true =>
  by_cases h3:x.op=0∨x.op=1∨x.op=2
  ·rw [chkNode_leaf hh h3]
   have hl:leafOk p n x=(exprOk p n x&&decide (m+cntE x≤64))∧(leafOk p n x=true→cntEs x.args=0):=by
    have h0:leafOk p n x=true→cntEs x.args=0:=fun h=>by
     apply hz
     simp only [leafOk] at h
     grind
    refine ⟨?_,h0⟩
    have h1:leafOk p n x=exprOk p n x:=by
     rw [exprOk.eq_def]
     simp only [leafOk]
     simp only [headOk] at hh
     grind
    rw [h1]
    cases he:exprOk p n x with
    | false=>rfl
    | true =>
     have:=h0 (by rw [h1,he])
     simp only [headOk,Bool.and_eq_true,decide_eq_true_eq] at hh
     have:m+(cntE x:Int)≤64:=by omega
     simp only [this,decide_true,Bool.and_true]
   exact ⟨hl.1,fun h=>by have:=hl.2 h; simp only; omega⟩
  ·simp only [not_or] at h3
   have h4:x.op=3∨x.op=4∨x.op=5∨x.op=6∨x.op=7:=by simp only [headOk,Bool.and_eq_true,decide_eq_true_eq] at hh; omega
   rcases two_or (x:=x) with ⟨a,b,hab⟩ | ⟨hab,hl⟩
   ·rw [chkNode_two hh h3.1 h3.2.1 h3.2.2 hab,exprOk_two h4 hab]
    have ha:=ih a (by simp [hab]) (m+1)
    have hc2:(cntE x:Int)=1+cntE a+cntE b:=by rw [hcnt,hab]; simp only [cntEs]; omega
    have hhd:(decide (x.k=0)&&zLin x.l&&zRef x.r)=true:=by
     simp only [headOk] at hh
     grind
    rw [hhd,Bool.true_and]
    cases hea:(chkNode p n a (m+1)).1 with
    | false =>
     simp only [Bool.false_eq_true,if_false]
     refine ⟨?_,fun h=>by cases h⟩
     have:=ha.1
     rw [hea] at this
     by_cases hle:m+1+(cntE a:Int)≤64
     ·simp only [hle,decide_true,Bool.and_true] at this
      rw [← this]; rfl
     ·have:¬ m+(cntE x:Int)≤64:=by omega
      simp only [this,decide_false,Bool.and_false]
    | true =>
     simp only [if_true]
     have h2:=ha.2 hea
     have hb:=ih b (by simp [hab]) (chkNode p n a (m+1)).2
     have h1:=ha.1
     rw [hea] at h1
     have h1':=h1.symm
     simp only [Bool.and_eq_true,decide_eq_true_eq] at h1'
     refine ⟨?_,fun h=>by rw [hb.2 h,h2]; omega⟩
     rw [hb.1,h1'.1,Bool.true_and,h2]
     congr 1
     rw [decide_eq_decide]; omega
   ·rw [chkNode_not hh h3.1 h3.2.1 h3.2.2 hab,exprOk_not h4 hab]
    exact ⟨rfl,fun h=>by cases h⟩
end Wp
end AM
end Go.Proofs.Ytimfbnojmdnlnaa
end
section
namespace Go.Proofs.Ytimfbnojmdnlnaa
namespace AM
namespace Wp
def idxI {α:Type} (f:α→Bool) (l:List α):Int:=if l.any f then (l.findIdx f:Int) else -1
theorem idxI_pos {α:Type} {f:α→Bool} {l:List α}:decide (0≤idxI f l)=l.any f:=by
 unfold idxI
 cases l.any f<;>simp
theorem idxI_none {α:Type} {f:α→Bool} {l:List α} (h:∀ (m:Nat) x,l[m]?=some x→f x=false):idxI f l=-1:=by
 unfold idxI
 rw [if_neg]
 intro h2
 obtain ⟨x,hx,hf⟩:=List.any_eq_true.1 h2
 obtain ⟨m,hm⟩:=List.mem_iff_getElem?.1 hx
 rw [h m x hm] at hf; cases hf
theorem idxI_at {α:Type} {f:α→Bool} {l:List α} {k:Nat} {x:α} (h:∀ (m:Nat) x,m < k→l[m]?=some x→f x=false) (hk:l[k]?=some x) (hf:f x=true):idxI f l=k:=by
 unfold idxI
 have hlt:=(List.getElem?_eq_some_iff.1 hk).1
 have hx:=(List.getElem?_eq_some_iff.1 hk).2
 rw [if_pos (List.any_eq_true.2 ⟨x,List.mem_of_getElem? hk,hf⟩)]
 congr 1
 rw [List.findIdx_eq hlt]
 refine ⟨by rw [hx]; exact hf,fun j hj=>h j _ hj (List.getElem?_eq_getElem _)⟩
theorem index_ok (b:Bool) (l:List ByteArray) (s:ByteArray) (hl:l.length≤LIM):Sp theEnv 129 [.slice (nk b) (l.map encS), .str s] (.int .i64 (idxI (fun t=>decide (s=t)) l)):=by
 refine Sp.fn rfl rfl rfl sx sy fun S=>?_; simp only [a129,c129,go_sem,simprocAttr]
 refine Run_range l.length [0,1] [] (fun k vs S'=>S'=_∧∀ m x,m < k→l[m]?=some x→decide (s=x)=false) hl sx sx rfl rfl rfl rfl sx ⟨rfl,by simp⟩ ?_ ?_
 ·rintro k F _ hk ⟨rfl,hno⟩ hi hkept
  simp only [go_sem,simprocAttr] at hkept
  obtain ⟨x,hx⟩:∃ x,l[k]?=some x:=⟨l[k],List.getElem?_eq_getElem hk⟩
  simp only [go_sem,simprocAttr,hkept,hi,iaO_map hx,Run_if]
  split
  ·rename_i h
   simp only [go_sem,simprocAttr,idxI_at hno hx (by simp [h])]
  ·rename_i h
   intro m y hm hy
   rcases Nat.lt_succ_iff_lt_or_eq.1 hm with h1 | h1
   ·have:=hno m y h1 hy; simpa using this
   ·subst h1; rw [hx] at hy; cases hy; simpa using h
 ·rintro F _ ⟨rfl,hno⟩ hkept
  simp only [go_sem,simprocAttr,idxI_none fun m x h=>hno m x (List.getElem?_eq_some_iff.1 h).1 h]
theorem contains_sl (b:Bool) (l:List ByteArray) (s:ByteArray) (hl:l.length≤LIM):Sp theEnv 97 [.slice (nk b) (l.map encS), .str s] (.bool (l.any fun t=>decide (s=t))):=by
 refine Sp.fn rfl rfl rfl sx sy fun S=>?_; simp only [a97,c97,go_sem,simprocAttr]
 simp only [go_sem,simprocAttr,(index_ok b l s hl).call,idxI_pos]
def isNew (names:List ByteArray) (s:ByteArray):Bool:=!(names.any fun t=>decide (s=t))
theorem named_ok (b:Bool) (names:List ByteArray) (s:ByteArray) (hl:names.length≤LIM):Sp theEnv 65 [.str s, .slice (nk b) (names.map encS)] (.bool (vName s&&isNew names s)):=by
 refine Sp.fn rfl rfl rfl sx sy fun S=>?_; simp only [a65,c65,go_sem,simprocAttr]
 simp only [go_sem,simprocAttr,(name_set s).call,(contains_sl b names s hl).callG,isNew]
def cloneV (b:Bool) (xs:List (List V)):V:=if b then .slice .nil [] else .slice (.own 9) xs
@[go_sem] theorem tame_cloneV {b:Bool} {xs:List (List V)}:tame (cloneV b xs)=true:=by cases b<;>rfl
@[go_sem] theorem tame_scloneV {b:Bool} {xs:List (List V)}:tame (strip (cloneV b xs))=true:=by cases b<;>rfl
theorem app_clone {b:Bool} {l:List ByteArray} {s:ByteArray} {k:SK} (hl:l.length≤1000000000) (hb:b=true→l=[]):appO 9 1 16 (cloneV b (l.map encS)) (.slice k [[.str s]])=some (.slice (.own 9) ((l++[s]).map encS)):=by
 cases b with
 | true=>rw [hb rfl]; exact appO_nil rfl (by simp) (by simp)
 | false =>
  rw [List.map_append]
  exact appO_own rfl (by simp; omega) (by simp; omega)
theorem clone_ok (b:Bool) (l:List ByteArray) (hl:l.length≤1000000000) (hb:b=true→l=[]):Sp theEnv 32 [.slice (nk b) (l.map encS)] (cloneV b (l.map encS)):=by
 refine Sp.fn rfl rfl rfl sx (by cases b<;>simp only [cloneV,go_sem,simprocAttr,implies_true]) fun S=>?_
 simp only [a32,c32,go_sem,simprocAttr]
 cases b with
 | true=>simp only [go_sem,simprocAttr,cloneV]
 | false=>simp only [go_sem,simprocAttr,appO_own (e:=9) (b:=16) (k:=.shut) (xs:=[]) (lens_S l) (by simp; omega) (by simp; omega),cloneV]
theorem arr_named {a:Arr} {s:Stm} {S:St} {l i:Nat} (hb:getBox S l i=some (encStm s)):CallIs theEnv (.fn 186) [.agg (encArr a), .ptr l i 0] S (.ret (.bool (decide (a.name=s.name)))) S:=by
 refine CallIs.fn rfl rfl rfl ?_
 have g1:=fun T=>getBox_up (T:=T) hb
 simp only [a186,c186,go_sem,simprocAttr,g1]
theorem arr_index {b:Bool} {ars:List Arr} {s:Stm} {S:St} {l i:Nat} (hl:ars.length≤LIM) (hb:getBox S l i=some (encStm s)):CallIs theEnv (.fn 191) [.slice (nk b) (ars.map encArr), .func (.func 186) [.ptr l i 0]] S (.ret (.int .i64 (idxI (fun a=>decide (a.name=s.name)) ars))) S:=by
 refine CallIs.fn rfl rfl rfl ?_
 have g1:=fun T=>getBox_up (T:=T) hb
 simp only [a191,c191,go_sem,simprocAttr]
 refine Run_range ars.length [0,1] [] (fun k vs S'=>S'=_∧∀ m x,m < k→ars[m]?=some x→decide (x.name=s.name)=false) hl sx sx rfl rfl rfl rfl sx ⟨rfl,by simp⟩ ?_ ?_
 ·rintro k F _ hk ⟨rfl,hno⟩ hi hkept
  simp only [go_sem,simprocAttr] at hkept
  obtain ⟨x,hx⟩:∃ x,ars[k]?=some x:=⟨ars[k],List.getElem?_eq_getElem hk⟩
  have hc:=fun T=>arr_named (a:=x) (g1 T)
  simp only [go_sem,simprocAttr,hkept,hi,iaO_map hx,CallvP (xs:=[.agg (encArr x)]) (cs:=[.ptr l i 0]) (hc _) rfl rfl,Run_if]
  split
  ·rename_i h
   simp only [go_sem,simprocAttr,idxI_at hno hx (by simp [h])]
  ·rename_i h
   intro m y hm hy
   rcases Nat.lt_succ_iff_lt_or_eq.1 hm with h1 | h1
   ·have:=hno m y h1 hy; simpa using this
   ·subst h1; rw [hx] at hy; cases hy; simpa using h
 ·rintro F _ ⟨rfl,hno⟩ hkept
  simp only [go_sem,simprocAttr,idxI_none fun m x h=>hno m x (List.getElem?_eq_some_iff.1 h).1 h]
theorem arr_contains {b:Bool} {ars:List Arr} {s:Stm} {S:St} {l i:Nat} (hl:ars.length≤LIM) (hb:getBox S l i=some (encStm s)):CallIs theEnv (.fn 185) [.slice (nk b) (ars.map encArr), .func (.func 186) [.ptr l i 0]] S (.ret (.bool (ars.any fun a=>decide (a.name=s.name)))) S:=by
 refine CallIs.fn rfl rfl rfl ?_
 have hc:=fun T=>arr_index (b:=b) hl (getBox_up (T:=T) hb)
 simp only [a185,c185,go_sem,simprocAttr,CallP (hc _),idxI_pos]
end Wp
end AM
end Go.Proofs.Ytimfbnojmdnlnaa
end
section
namespace Go.Proofs.Ytimfbnojmdnlnaa
namespace AM
namespace Wp
def lowOne (b:Bound):Bool :=
 match b.parts with
 | [q]=>(match q.rows with | [r]=>decide (r.div=1) | _=>false)
 | _=>false
def arrNew (p:Prg) (s:ByteArray):Bool:=!(p.arrays.any fun a=>decide (a.name=s))
def cFor (p:Prg) (names:List ByteArray) (s:Stm):Bool :=
 (vName s.name&&isNew names s.name&&arrNew p s.name)&&vBound names.length s.low&&vBound names.length s.high&&(decide (1≤s.step)&&decide (s.step≤64)&&decide (0≤s.mark)&&decide (s.mark≤2)) &&
  (decide (s.step=1)||lowOne s.low)&&(zSet s.test&&zRef s.target&&zExp s.value&&decide ((s.els.length:Int)=0))
def cIf (names:List ByteArray) (s:Stm):Bool:=(zLoop s&&zRef s.target&&zExp s.value)&&(vSet s.test&&decide (s.test.dim=(names.length:Int)))
def cAsg (p:Prg) (names:List ByteArray) (s:Stm):Bool:=(zLoop s&&zSet s.test&&decide ((s.body.length:Int)=0)&&decide ((s.els.length:Int)=0))&&vCell p names.length s.target&&(chkNode p names.length s.value 0).1
def deep (p:Prg) (l:List Stm) (names:List ByteArray):Bool:=decide ((l.length:Int)=0)||decide ((names.length:Int) - (p.params.length:Int)≤10)
mutual
def chkStm (p:Prg):Stm→List ByteArray→Int→Bool×Int
 | s@⟨kind,name,_,_,_,_,_,_,_,_,body,_,els⟩,names,st =>
  if kind=1 then (if cFor p names s=true then (if deep p body (names++[name])=true then chkList p body (names++[name]) st else (false,st)) else (false,st))
  else if kind=2 then (if cIf names s=true then (if deep p body names=true then
    (if (chkList p body names st).1=true then (if deep p els names=true then chkList p els names (chkList p body names st).2 else (false,(chkList p body names st).2)) else (false,(chkList p body names st).2)) else (false,st)) else (false,st))
  else if kind=3 then (cAsg p names s,st)
  else (false,st)
def chkList (p:Prg):List Stm→List ByteArray→Int→Bool×Int
 | [],_,st=>(true,st)
 | s::l,names,st=>if st+1≤256 then (if (chkStm p s names (st+1)).1=true then chkList p l names (chkStm p s names (st+1)).2 else (false,(chkStm p s names (st+1)).2)) else (false,st+1)
end
def chkBody (p:Prg) (l:List Stm) (names:List ByteArray) (st:Int):Bool×Int:=if deep p l names=true then chkList p l names st else (false,st)
section
variable {p:Prg} {s:Stm} {names:List ByteArray} {st:Int} {xs ys:List Stm}
theorem chkStm_for (h:s.kind=1):chkStm p s names st=if cFor p names s=true then chkBody p s.body (names++[s.name]) st else (false,st):=by
 cases s; simp only at h; rw [chkStm]; simp only [h,if_true,chkBody]
theorem chkStm_if (h:s.kind=2):chkStm p s names st=if cIf names s=true then (if (chkBody p s.body names st).1=true then chkBody p s.els names (chkBody p s.body names st).2 else (false,(chkBody p s.body names st).2)) else (false,st):=by
 cases s; simp only at h; rw [chkStm]
 have h1:¬ (2:Int)=1:=by decide
 simp only [h,h1,if_true,if_false,chkBody]
 split
 ·split<;>simp
 ·rfl
theorem chkStm_asg (h:s.kind=3):chkStm p s names st=(cAsg p names s,st):=by
 cases s; simp only at h; rw [chkStm]
 have h1:¬ (3:Int)=1:=by decide
 have h2:¬ (3:Int)=2:=by decide
 simp only [h,h1,h2,if_true,if_false]
theorem chkStm_bad (h1:s.kind≠1) (h2:s.kind≠2) (h3:s.kind≠3):chkStm p s names st=(false,st):=by
 cases s; simp only at h1 h2 h3; rw [chkStm]
 simp only [h1,h2,h3,if_false]
theorem chkList_cons:chkList p (s::xs) names st=if st+1≤256 then (if (chkStm p s names (st+1)).1=true then chkList p xs names (chkStm p s names (st+1)).2 else (false,(chkStm p s names (st+1)).2)) else (false,st+1):=by rw [chkList]
theorem chkList_app:∀ {xs:List Stm} {st:Int},(chkList p xs names st).1=true→chkList p (xs++ys) names st=chkList p ys names (chkList p xs names st).2
 | [],st,h=>by rw [chkList]; rfl
 | s::xs,st,h=>by
  rw [List.cons_append,chkList_cons,chkList_cons]
  rw [chkList_cons] at h
  split
  ·rename_i h1
   rw [if_pos h1] at h
   split
   ·rename_i h2
    rw [if_pos h2] at h
    exact chkList_app h
   ·rename_i h2
    rw [if_neg h2] at h; cases h
  ·rename_i h1
   rw [if_neg h1] at h; cases h
end
theorem chk_bound {p:Prg}:∀ (s:Stm) (names:List ByteArray) (st:Int),(chkStm p s names st).1=true→st≤(chkStm p s names st).2∧(st≤256→(chkStm p s names st).2≤256):=by
 have list:∀ (l:List Stm),(∀ s∈l, ∀ (names:List ByteArray) (st:Int),(chkStm p s names st).1=true→st≤(chkStm p s names st).2∧(st≤256→(chkStm p s names st).2≤256)) →
   ∀ (names:List ByteArray) (st:Int),(chkList p l names st).1=true→st≤(chkList p l names st).2∧(st≤256→(chkList p l names st).2≤256):=by
  intro l
  induction l with
  | nil=>intro _ names st _; rw [chkList]; simp
  | cons s l ih =>
   intro h names st hr
   rw [chkList_cons] at hr ⊢
   split at hr
   ·rename_i h1
    rw [if_pos h1]
    split at hr
    ·rename_i h2
     rw [if_pos h2]
     have a:=h s List.mem_cons_self names (st+1) h2
     have b:=ih (fun s hs=>h s (List.mem_cons_of_mem _ hs)) names _ hr
     omega
    ·cases hr
   ·cases hr
 have body:∀ (l:List Stm),(∀ s∈l, ∀ (names:List ByteArray) (st:Int),(chkStm p s names st).1=true→st≤(chkStm p s names st).2∧(st≤256→(chkStm p s names st).2≤256)) →
   ∀ (names:List ByteArray) (st:Int),(chkBody p l names st).1=true→st≤(chkBody p l names st).2∧(st≤256→(chkBody p l names st).2≤256):=by
  intro l h names st hr
  unfold chkBody at hr ⊢
  split at hr
  ·rename_i h1; rw [if_pos h1]; exact list l h names st hr
  ·cases hr
 refine Stm.ind fun s ihb ihe names st hr=>?_
 by_cases h1:s.kind=1
 ·rw [chkStm_for h1] at hr ⊢
  split at hr
  ·rename_i h2; rw [if_pos h2]; exact body _ ihb _ _ hr
  ·cases hr
 by_cases h2:s.kind=2
 ·rw [chkStm_if h2] at hr ⊢
  split at hr
  ·rename_i h3
   rw [if_pos h3]
   split at hr
   ·rename_i h4
    rw [if_pos h4]
    have a:=body _ ihb _ _ h4
    have b:=body _ ihe _ _ hr
    omega
   ·cases hr
  ·cases hr
 by_cases h3:s.kind=3
 ·rw [chkStm_asg h3]; simp
 ·rw [chkStm_bad h1 h2 h3] at hr; cases hr
theorem list_bound {p:Prg} {names:List ByteArray}:∀ {l:List Stm} {st:Int},(chkList p l names st).1=true→st≤(chkList p l names st).2∧(st≤256→(chkList p l names st).2≤256)
 | [],st,_=>by rw [chkList]; simp
 | s::l,st,hr=>by
  rw [chkList_cons] at hr ⊢
  split at hr
  ·rename_i h1
   rw [if_pos h1]
   split at hr
   ·rename_i h2
    rw [if_pos h2]
    have a:=chk_bound s names (st+1) h2
    have b:=list_bound hr
    omega
   ·cases hr
  ·cases hr
theorem body_bound {p:Prg} {names:List ByteArray} {l:List Stm} {st:Int} (hr:(chkBody p l names st).1=true):st≤(chkBody p l names st).2∧(st≤256→(chkBody p l names st).2≤256):=by
 unfold chkBody at hr ⊢
 split at hr
 ·rename_i h1; rw [if_pos h1]; exact list_bound hr
 ·cases hr
theorem kind_for (s:Stm) (h:s.kind=1):Sp theEnv 67 [.agg (encStm s)] (.ifc 174 (.agg (encStm s))):=by
 refine Sp.fn rfl rfl rfl sx sy fun S=>?_; simp only [a67,c67,go_sem,simprocAttr]
 simp only [go_sem,simprocAttr,h]
theorem kind_if (s:Stm) (h:s.kind=2):Sp theEnv 67 [.agg (encStm s)] (.ifc 175 (.agg (encStm s))):=by
 refine Sp.fn rfl rfl rfl sx sy fun S=>?_; simp only [a67,c67,go_sem,simprocAttr]
 simp only [go_sem,simprocAttr,h]
theorem kind_asg (s:Stm) (h:s.kind=3):Sp theEnv 67 [.agg (encStm s)] (.ifc 176 (.agg (encStm s))):=by
 refine Sp.fn rfl rfl rfl sx sy fun S=>?_; simp only [a67,c67,go_sem,simprocAttr]
 simp only [go_sem,simprocAttr,h]
theorem kind_bad (s:Stm) (h1:s.kind≠1) (h2:s.kind≠2) (h3:s.kind≠3):SpC theEnv 67 [.agg (encStm s)] false:=by
 refine SpC.fn rfl rfl rfl sx fun S=>?_
 simp only [a67,c67,go_sem,simprocAttr,h1,h2,h3,stop]
theorem asg_ok {p:Prg} {st:Int} {s:Stm} {nb:Bool} {names:List ByteArray} {S:St} {l ci:Nat} (hs:OkStm s) (hb:getBox S l ci=some (encChk p st)) :
  CallIs theEnv (.fn 195) [.agg (encStm s), .ptr l ci 0, .slice (nk nb) (names.map encS)] S (outIf (cAsg p names s)) S:=by
 refine CallIs.fn rfl rfl rfl ?_
 have g1:=fun T=>getBox_up (T:=T) hb
 have hlt:=getBox_lt hb
 have hcell:=fun T=>cell_ok (n:=(names.length:Int)) hs.target' (g1 T)
 have hnode:=fun B=>node_ok (p:=p) (st:=st) (n:=(names.length:Int)) (l:=l) (ci:=ci) (l':=S.length) (ni:=2) (fun h=>by omega) s.value hs.value' 0 (⟨[encStm s,encStm s,B],none⟩::S) (by omega) (by omega) (g1 _)
 simp only [a195,c195,go_sem,simprocAttr,(blank_ok _).call,(unset_ok _).callG,(need_ok _).call,CallP (hcell _)]
 split
 ·split
  ·have hn:=hnode [.int .i64 0] sx
   simp only [go_sem,simprocAttr] at hn
   rw [CallP hn sx sx]
   simp only [go_sem,simprocAttr,cAsg]
   grind
  ·simp only [go_sem,simprocAttr,cAsg]
   grind
 ·simp only [go_sem,simprocAttr,cAsg]
  grind
theorem if_ok {p:Prg} {st:Int} {s:Stm} {nb:Bool} {names:List ByteArray} {S:St} {l ci:Nat} (hs:OkStm s) (hb:getBox S l ci=some (encChk p st))
  (h1:∀ T,CallIs theEnv (.fn 31) [.ptr l ci 0, .slice (nk s.bn) (s.body.map encStm), .slice (nk nb) (names.map encS)] (T::S) (outIf (chkBody p s.body names st).1) (T::setBox S l ci (encChk p (chkBody p s.body names st).2)))
  (h2:(chkBody p s.body names st).1=true→∀ T,CallIs theEnv (.fn 31) [.ptr l ci 0, .slice (nk s.en) (s.els.map encStm), .slice (nk nb) (names.map encS)] (T::setBox S l ci (encChk p (chkBody p s.body names st).2)) (outIf (chkBody p s.els names (chkBody p s.body names st).2).1) (T::setBox S l ci (encChk p (chkBody p s.els names (chkBody p s.body names st).2).2))) (hk:s.kind=2) :
  CallIs theEnv (.fn 193) [.agg (encStm s), .ptr l ci 0, .slice (nk nb) (names.map encS)] S (outIf (chkStm p s names st).1) (setBox S l ci (encChk p (chkStm p s names st).2)):=by
 refine CallIs.fn rfl rfl rfl ?_
 have g1:=fun T=>getBox_up (T:=T) hb
 have hself:=setBox_self hb
 rw [chkStm_if hk]
 cases hB:(chkBody p s.body names st).1 with
 | false =>
  have h1':=h1
  simp only [hB] at h1'
  simp only [a193,c193,go_sem,simprocAttr,(blank_ok _).call,(plainRef_ok _).callG,(plainExp_ok _).callG,(set_valid _ hs.test').call,(need_ok _).call,CallP (h1' _)]
  have hc:cIf names s=((zLoop s&&zRef s.target&&zExp s.value)&&(vSet s.test&&decide (s.test.dim=(names.length:Int)))):=rfl
  grind
 | true =>
 have h1':=h1
 simp only [hB] at h1'
 simp only [a193,c193,go_sem,simprocAttr,(blank_ok _).call,(plainRef_ok _).callG,(plainExp_ok _).callG,(set_valid _ hs.test').call,(need_ok _).call,CallP (h1' _),CallP (h2 hB _)]
 have hc:cIf names s=((zLoop s&&zRef s.target&&zExp s.value)&&(vSet s.test&&decide (s.test.dim=(names.length:Int)))):=rfl
 grind
theorem for_ok {p:Prg} {st:Int} {s:Stm} {nb:Bool} {names:List ByteArray} {S:St} {l ci:Nat} (hp:OkPrg p) (hs:OkStm s) (hb:getBox S l ci=some (encChk p st)) (hn:names.length≤1000000) (hnb:nb=true→names=[])
  (h1:∀ T,CallIs theEnv (.fn 31) [.ptr l ci 0, .slice (nk s.bn) (s.body.map encStm), .slice .shut ((names++[s.name]).map encS)] (T::S) (outIf (chkBody p s.body (names++[s.name]) st).1) (T::setBox S l ci (encChk p (chkBody p s.body (names++[s.name]) st).2))) (hk:s.kind=1) :
  CallIs theEnv (.fn 184) [.agg (encStm s), .ptr l ci 0, .slice (nk nb) (names.map encS)] S (outIf (chkStm p s names st).1) (setBox S l ci (encChk p (chkStm p s names st).2)):=by
 refine CallIs.fn rfl rfl rfl ?_
 have g1:=fun T=>getBox_up (T:=T) hb
 have hlt:=getBox_lt hb
 have hself:=setBox_self hb
 have hac:=fun (B:List (List V)) (h:getBox (⟨B,none⟩::S) S.length 1=some (encStm s))=>arr_contains (b:=p.an) hp.al h
 have hnl:names.length≤LIM:=Nat.le_trans hn (by decide)
 have hbl:=bound_ok s.low (names.length:Int) hs.low'
 have hbh:=bound_ok s.high (names.length:Int) hs.high'
 simp only [a184,c184,go_sem,simprocAttr,(named_ok nb names s.name hnl).call,CallGP (hac [encStm s,encStm s] sx) sx sx,g1,(need_ok _).call,hbl.call,hbh.call,(unset_ok _).call,(plainRef_ok _).callG,(plainExp_ok _).callG]
 rw [chkStm_for hk]
 have hc:cFor p names s=((vName s.name&&isNew names s.name&&arrNew p s.name)&&vBound names.length s.low&&vBound names.length s.high&&(decide (1≤s.step)&&decide (s.step≤64)&&decide (0≤s.mark)&&decide (s.mark≤2)) &&
  (decide (s.step=1)||lowOne s.low)&&(zSet s.test&&zRef s.target&&zExp s.value&&decide ((s.els.length:Int)=0))):=rfl
 unfold arrNew at hc
 split
 ·split
  ·split
   ·split
    ·have hlow:lowOne s.low=match s.low.parts with | [q]=>(match q.rows with | [r]=>decide (r.div=1) | _=>false) | _=>false:=rfl
     by_cases hst:s.step=1
     ·simp only [go_sem,simprocAttr,hst,(unset_ok _).call,(plainRef_ok _).callG,(plainExp_ok _).callG,(need_ok _).call,(clone_ok nb names (by omega) hnb).call,app_clone (by omega) hnb,CallP (h1 _)]
      grind
     ·by_cases hL:∃ q,s.low.parts=[q]
      ·obtain ⟨q,hq⟩:=hL
       by_cases hR:∃ r,q.rows=[r]
       ·obtain ⟨r,hr⟩:=hR
        rw [hq] at hlow
        simp only [hr] at hlow
        simp only [go_sem,simprocAttr,hst,hq,hr,(unset_ok _).call,(plainRef_ok _).callG,(plainExp_ok _).callG,(need_ok _).call,(clone_ok nb names (by omega) hnb).call,app_clone (by omega) hnb,CallP (h1 _)]
        grind
       ·have hr1:¬ (q.rows.length:Int)=1:=fun h=>hR (by
         match hx:q.rows,h with
         | [r],_=>exact ⟨r,rfl⟩)
        have hlow':lowOne s.low=false:=by
         rw [hlow,hq]; simp only
         split
         ·rename_i r hr; exact absurd ⟨r,hr⟩ hR
         ·rfl
        simp only [go_sem,simprocAttr,hst,hq,hr1,(need_ok _).call]
        grind
      ·have hl1:¬ (s.low.parts.length:Int)=1:=fun h=>hL (by
        match hx:s.low.parts,h with
        | [r],_=>exact ⟨r,rfl⟩)
       have hlow':lowOne s.low=false:=by
        rw [hlow]
        split
        ·rename_i r hr; exact absurd ⟨r,hr⟩ hL
        ·rfl
       simp only [go_sem,simprocAttr,hst,hl1,(need_ok _).call]
       grind
    ·grind
   ·grind
  ·grind
 ·grind
end Wp
end AM
end Go.Proofs.Ytimfbnojmdnlnaa
end
section
namespace Go.Proofs.Ytimfbnojmdnlnaa
namespace AM
namespace Wp
def StmSpec (p:Prg) (l ci:Nat) (s:Stm):Prop:=∀ (names:List ByteArray) (nb:Bool) (st:Int) (S:St),(names.length:Int) - p.params.length≤10→(nb=true→names=[])→getBox S l ci=some (encChk p st)→0≤st→st≤256 →
 (s.kind=1→CallIs theEnv (.fn 184) [.agg (encStm s), .ptr l ci 0, .slice (nk nb) (names.map encS)] S (outIf (chkStm p s names st).1) (setBox S l ci (encChk p (chkStm p s names st).2))) ∧
 (s.kind=2→CallIs theEnv (.fn 193) [.agg (encStm s), .ptr l ci 0, .slice (nk nb) (names.map encS)] S (outIf (chkStm p s names st).1) (setBox S l ci (encChk p (chkStm p s names st).2))) ∧
 (s.kind=3→CallIs theEnv (.fn 195) [.agg (encStm s), .ptr l ci 0, .slice (nk nb) (names.map encS)] S (outIf (chkStm p s names st).1) (setBox S l ci (encChk p (chkStm p s names st).2)))
def BodySpec (p:Prg) (l ci:Nat) (ss:List Stm):Prop:=∀ (names:List ByteArray) (nb bn:Bool) (st:Int) (S:St),(names.length:Int) - p.params.length≤11→(nb=true→names=[])→getBox S l ci=some (encChk p st)→0≤st→st≤256 →
 CallIs theEnv (.fn 31) [.ptr l ci 0, .slice (nk bn) (ss.map encStm), .slice (nk nb) (names.map encS)] S (outIf (chkBody p ss names st).1) (setBox S l ci (encChk p (chkBody p ss names st).2))
theorem m_for : theEnv.meth 174 "headland/lang.check" = some 184 := by simp [theEnv,theMeth]
theorem m_test : theEnv.meth 175 "headland/lang.check" = some 193 := by simp [theEnv,theMeth]
theorem m_assign : theEnv.meth 176 "headland/lang.check" = some 195 := by simp [theEnv,theMeth]
theorem body_ok {p:Prg} {l ci:Nat} (hp:OkPrg p) (hpp:p.params.length≤1000) {ss:List Stm} (hl:ss.length≤LIM) (hs:∀ s∈ss,StmSpec p l ci s):BodySpec p l ci ss:=by
 intro names nb bn st S hn hnb hb h0 h256
 refine CallIs.fn rfl rfl rfl ?_
 have g1:=fun T=>getBox_up (T:=T) hb
 have g3:∀ v,dz (some v)=some v→getBox (setBox S l ci v) l ci=some v:=fun v hv=>getBox_set hv hb
 have g5:=fun T v hv=>getBox_up (T:=T) (g3 v hv)
 have g7:∀ T v w,setBox (T::setBox S l ci v) l ci w=T::setBox S l ci w:=fun T v w=>by rw [setBox_below (by rw [len_setBox]; have:=getBox_lt hb; omega),setBox_setBox]
 have hself:=setBox_self hb
 have hw:IntKind.i64.wrap ((names.length:Int) - (p.params.length:Int))=(names.length:Int) - (p.params.length:Int):=wrap64 (by omega) (by omega)
 simp only [a31,c31,go_sem,simprocAttr,g1,hw,(need_ok _).call]
 have hdeep:deep p ss names=(decide (ss.length=0)||decide ((names.length:Int) - (p.params.length:Int)≤10)):=by simp [deep]
 unfold chkBody
 rw [← hdeep]
 split
 ·rename_i hd
  refine Run_range ss.length [0,2,24] [] (fun k vs S'=>∃ B st',S'=⟨B,none⟩::setBox S l ci (encChk p st')∧chkList p (ss.take k) names st=(true,st')∧0≤st'∧st'≤256) hl sx sx rfl rfl rfl rfl sx ⟨_,st,by rw [hself],by rw [List.take_zero,chkList],h0,h256⟩ ?_ ?_
  ·rintro k F _ hk ⟨B,st',rfl,hc,h0',h256'⟩ hi hkept
   simp only [go_sem,simprocAttr] at hkept
   obtain ⟨s,hsk⟩:∃ s,ss[k]?=some s:=⟨ss[k],List.getElem?_eq_getElem hk⟩
   have hm:=List.mem_of_getElem? hsk
   have hw2:IntKind.i64.wrap (st'+1)=st'+1:=wrap64 (by omega) (by omega)
   have hn10:(names.length:Int) - p.params.length≤10:=by
    rw [hdeep] at hd
    have:ss.length≠0:=by omega
    simpa [this] using hd
   have hall:chkList p ss names st=chkList p (s::ss.drop (k+1)) names st':=by
    have:ss=ss.take k++(s::ss.drop (k+1)):=by
     have h1:=(List.getElem?_eq_some_iff.1 hsk).2
     rw [← h1,List.getElem_cons_drop,List.take_append_drop]
    conv=>lhs; rw [this]
    rw [chkList_app (by rw [hc]),hc]
   simp only [go_sem,simprocAttr,hkept,hi,iaO_map hsk,g5,g7,hw2,(need_ok _).call]
   have htake:chkList p (ss.take (k+1)) names st=chkList p [s] names st':=by
    rw [take_snoc hsk,chkList_app (by rw [hc]),hc]
   rw [hall,chkList_cons]
   rw [chkList_cons] at htake
   split
   ·rename_i hle
    rw [if_pos hle] at htake
    have hsp:=hs s hm names nb (st'+1) (⟨B++[encStm s],none⟩::setBox S l ci (encChk p (st'+1))) hn10 hnb (g5 _ _ rfl) (by omega) hle
    simp only [g7] at hsp
    have hk3 : (∃ t f,Sp theEnv 67 [.agg (encStm s)] (.ifc t (.agg (encStm s))) ∧ theEnv.meth t "headland/lang.check" = some f ∧ CallIs theEnv (.fn f) [.agg (encStm s), .ptr l ci 0, .slice (nk nb) (names.map encS)] (⟨B ++ [encStm s],none⟩ :: setBox S l ci (encChk p (st' + 1))) (outIf (chkStm p s names (st' + 1)).1) (⟨B ++ [encStm s],none⟩ :: setBox S l ci (encChk p (chkStm p s names (st' + 1)).2))) ∨
      (SpC theEnv 67 [.agg (encStm s)] false∧chkStm p s names (st'+1)=(false,st'+1)):=by
     by_cases h1:s.kind=1
     ·exact .inl ⟨_,_,kind_for s h1,m_for,hsp.1 h1⟩
     by_cases h2:s.kind=2
     ·exact .inl ⟨_,_,kind_if s h2,m_test,hsp.2.1 h2⟩
     by_cases h3:s.kind=3
     ·exact .inl ⟨_,_,kind_asg s h3,m_assign,hsp.2.2 h3⟩
     exact .inr ⟨kind_bad s h1 h2 h3,chkStm_bad h1 h2 h3⟩
    rcases hk3 with ⟨t,f,hsk1,hmt,hcall⟩ | ⟨hbad,hst⟩
    ·simp only [go_sem,simprocAttr,hsk1.call,hkept,InvP (xs:=[.ptr l ci 0, .slice (nk nb) (names.map encS)]) hmt hcall sx sx]
     split
     ·rename_i hr
      rw [if_pos hr,chkList] at htake
      have hbd:=chk_bound s names (st'+1) hr
      exact ⟨_,_,⟨rfl,rfl⟩,htake,by omega,hbd.2 hle⟩
     ·rename_i hr
      exact ⟨rfl,rfl⟩
    ·simp only [go_sem,simprocAttr,hbad.call,hst]
   ·simp only [go_sem,simprocAttr]
  ·rintro F _ ⟨B,st',rfl,hc,_⟩ hkept
   rw [List.take_length] at hc
   simp only [go_sem,simprocAttr,hc,if_true,hd]
 ·simp only [go_sem,simprocAttr,hself]
theorem stm_ok {p:Prg} {l ci:Nat} (hp:OkPrg p) (hpp:p.params.length≤1000):∀ s,OkStm s→StmSpec p l ci s:=by
 refine Stm.ind fun s ihb ihe hs=>?_
 have hb:=body_ok hp hpp hs.bn' fun t ht=>ihb t ht (hs.body' t ht)
 have he:=body_ok hp hpp hs.en' fun t ht=>ihe t ht (hs.els' t ht)
 intro names nb st S hn hnb hg h0 h256
 have g1:=fun T=>getBox_up (T:=T) hg
 have g2:=fun T v=>setBox_up (T:=T) (v:=v) hg
 have g3:∀ v,dz (some v)=some v→getBox (setBox S l ci v) l ci=some v:=fun v hv=>getBox_set hv hg
 have g5:=fun T v hv=>getBox_up (T:=T) (g3 v hv)
 have g7:∀ T v w,setBox (T::setBox S l ci v) l ci w=T::setBox S l ci w:=fun T v w=>by rw [setBox_below (by rw [len_setBox]; have:=getBox_lt hg; omega),setBox_setBox]
 refine ⟨fun hk=>?_,fun hk=>?_,fun hk=>?_⟩
 ·refine for_ok hp hs hg (by omega) hnb (fun T=>?_) hk
  have:=hb (names++[s.name]) false s.bn st (T::S) (by simp; omega) (by simp) (g1 T) h0 h256
  rw [g2] at this
  exact this
 ·refine if_ok hs hg (fun T=>?_) (fun hB T=>?_) hk
  ·have:=hb names nb s.bn st (T::S) (by omega) hnb (g1 T) h0 h256
   rw [g2] at this
   exact this
  ·have hbd:=body_bound hB
   have:=he names nb s.en (chkBody p s.body names st).2 (T::setBox S l ci (encChk p (chkBody p s.body names st).2)) (by omega) hnb (g5 T _ rfl) (by omega) (hbd.2 h256)
   rw [g7] at this
   exact this
 ·have:=asg_ok (nb:=nb) (names:=names) hs hg
  rw [chkStm_asg hk]
  simp only [setBox_self hg]
  exact this
end Wp
end AM
end Go.Proofs.Ytimfbnojmdnlnaa
end
