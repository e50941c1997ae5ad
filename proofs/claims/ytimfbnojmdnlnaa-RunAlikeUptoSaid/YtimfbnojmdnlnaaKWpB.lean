/- A stack of code, and equations by which simp goes through it. Printed by genwp.py. -/
import Derived.Test.YtimfbnojmdnlnaaKWpA
import Derived.Attr
import Derived.Laws.BitsLemmas
import Derived.Laws.Strings
set_option linter.all false
namespace Go.Proofs.Ytimfbnojmdnlnaa
namespace AM
namespace Wp
inductive KI where
 | c (a:ACode)
 | b (id:Nat)
inductive Cn where
 | s (bs:List Blk)
 | f (all os:List AOper) (bs:List Blk)
section
variable {E:Env}
def RunE (E:Env):List KI→Ex→Fr→St→(Ex→Fr→St→Prop)→Prop
 | [],e,F,S,Q=>Q e F S
 | .c a::ks,e,F,S,Q=>match e with | .nrm=>W E a F S (fun e F S=>RunE E ks e F S Q) | e=>RunE E ks e F S Q
 | .b id::ks,e,F,S,Q=>match e with | .exit j=>if j=id then RunE E ks .nrm F S Q else RunE E ks (.exit j) F S Q | e=>RunE E ks e F S Q
def Run (E:Env) (ks:List KI) (F:Fr) (S:St) (Q:Ex→Fr→St→Prop):Prop:=RunE E ks .nrm F S Q
def Wk (E:Env) (cn:Cn) (ks:List KI) (F:Fr) (S:St) (Q:Ex→Fr→St→Prop):Prop :=
 match cn with
 | .s bs=>Wb E bs F S fun e F S=>RunE E ks e F S Q
 | .f all os bs=>WfL E all os F S fun F S=>Wb E bs F S fun e F S=>RunE E ks e F S Q
variable {ks:List KI} {F:Fr} {S R:St} {Q:Ex→Fr→St→Prop} {cn:Cn} {bs:List Blk} {all os:List AOper} {d d':Option Nat} {B C:List (List V)} {lp:Option Lp} {L:List (List V)}
@[go_sem] theorem RunE_nil {e:Ex}:RunE E [] e F S Q=Q e F S:=_root_.id rfl
@[go_sem] theorem Run_nil:Run E [] F S Q=Q .nrm F S:=_root_.id rfl
@[go_sem] theorem RunE_c_ret {a:ACode}:RunE E (.c a::ks) .ret F S Q=RunE E ks .ret F S Q:=_root_.id rfl
@[go_sem] theorem RunE_c_exit {a:ACode} {j:Nat}:RunE E (.c a::ks) (.exit j) F S Q=RunE E ks (.exit j) F S Q:=_root_.id rfl
@[go_sem] theorem RunE_c_pan {a:ACode} {v:V}:RunE E (.c a::ks) (.pan v) F S Q=RunE E ks (.pan v) F S Q:=_root_.id rfl
@[go_sem] theorem RunE_b_ret {id:Nat}:RunE E (.b id::ks) .ret F S Q=RunE E ks .ret F S Q:=_root_.id rfl
@[go_sem] theorem RunE_b_pan {id:Nat} {v:V}:RunE E (.b id::ks) (.pan v) F S Q=RunE E ks (.pan v) F S Q:=_root_.id rfl
@[go_sem] theorem RunE_b_hit {id:Nat}:RunE E (.b id::ks) (.exit id) F S Q=Run E ks F S Q:=by simp only [RunE,if_true]; rfl
@[go_sem] theorem Run_b {id:Nat}:Run E (.b id::ks) F S Q=Run E ks F S Q:=_root_.id rfl
@[go_sem] theorem Run_nop:Run E (.c .nop::ks) F S Q=Run E ks F S Q:=_root_.id rfl
@[go_sem] theorem Run_reg:Run E (.c (.reg bs)::ks) F S Q=Wk E (.s bs) ks F S Q:=_root_.id rfl
@[go_sem] theorem Run_ret:Run E (.c .ret::ks) F S Q=RunE E ks .ret F S Q:=_root_.id rfl
@[go_sem] theorem Run_exit {id:Nat}:Run E (.c (.exit id)::ks) F S Q=RunE E ks (.exit id) F S Q:=_root_.id rfl
@[go_sem] theorem Run_seq {a b:ACode}:Run E (.c (.seq a b)::ks) F S Q=Run E (.c a::.c b::ks) F S Q:=by
 simp only [Run,RunE,W]
 congr 1
@[go_sem] theorem Run_blk {id:Nat} {a:ACode}:Run E (.c (.blk id a)::ks) F S Q=Run E (.c a::.b id::ks) F S Q:=by
 simp only [Run,RunE,W]
 congr 1
theorem Run_cond {c:Opd} {a b:ACode} {t:Bool} (h:evO F c=.bool t):Run E (.c (.cond c a b)::ks) F S Q=if t=true then Run E (.c a::ks) F S Q else Run E (.c b::ks) F S Q:=by
 simp only [Run,RunE,W,h]
@[go_sem] theorem Run_cond_t {c:Opd} {a b:ACode} (h:evO F c=.bool true):Run E (.c (.cond c a b)::ks) F S Q=Run E (.c a::ks) F S Q:=by rw [Run_cond h,if_pos rfl]
@[go_sem] theorem Run_cond_f {c:Opd} {a b:ACode} (h:evO F c=.bool false):Run E (.c (.cond c a b)::ks) F S Q=Run E (.c b::ks) F S Q:=by rw [Run_cond h,if_neg (by simp)]
def condW (v:V) (A B:Prop):Prop:=match v with | .bool t=>if t=true then A else B | _=>False
@[go_sem] theorem condW_bool {t:Bool} {A B:Prop}:condW (.bool t) A B=if t=true then A else B:=_root_.id rfl
theorem Run_if {c:Opd} {a b:ACode}:Run E (.c (.cond c a b)::ks) F S Q=condW (evO F c) (Run E (.c a::ks) F S Q) (Run E (.c b::ks) F S Q):=by
 simp only [Run,RunE,W,condW]; rfl
@[go_sem] theorem Wk_nil:Wk E (.s []) ks F S Q=Run E ks F S Q:=_root_.id rfl
@[go_sem] theorem Wk_free:Wk E (.s (.free os::bs)) ks F S Q=Wk E (.f os os bs) ks F S Q:=_root_.id rfl
def dsts:List AOper→Fr→Bool
 | [],_=>true
 | o::os,F=>(match o.dst with | some d=>tame (F d) | none=>true)&&dsts os F
@[go_sem] theorem dsts_nil:dsts [] F=true:=_root_.id rfl
@[go_sem] theorem dsts_some {t:Nat} {op:AOp} {gd:Option (Nat×Bool)}:dsts (⟨some t,op,gd⟩::os) F=(tame (F t)&&dsts os F):=_root_.id rfl
theorem settle1_same {o:AOper} (h:∀ d,o.dst=some d→tame (F d)=true):settle1 o F S=(F,S):=by
 unfold settle1
 cases hd:o.dst with
 | none=>rfl
 | some d =>
  have:=h d hd
  simp only
  cases hF:F d<;>first | rfl | (rw [hF] at this; cases this)
theorem settle_same:∀ {os:List AOper},dsts os F=true→settle os F S=(F,S)
 | [],_=>rfl
 | o::os,h=>by
  simp only [dsts,Bool.and_eq_true] at h
  simp only [settle,settle1_same (o:=o) (F:=F) (S:=S) (by intro d hd; simpa [hd] using h.1)]
  exact settle_same h.2
@[go_sem] theorem Wk_done (h:dsts all F=true):Wk E (.f all [] bs) ks F S Q=Wk E (.s bs) ks F S Q:=by
 simp only [Wk,WfL,settle_same h]
def WkV (E:Env) (o:Option V) (d:Option Nat) (cn:Cn) (ks:List KI) (F:Fr) (S:St) (Q:Ex→Fr→St→Prop):Prop:=o.isSome=true∧Wk E cn ks (putO F d (o.getD .undef)) S Q
@[go_sem] theorem WkV_some {v:V}:WkV E (some v) d cn ks F S Q=Wk E cn ks (putO F d v) S Q:=by simp [WkV]
def gsel (gv:V) (b:Bool) (v:V):V:=match gv with | .bool c=>if c=b then v else .tup [] | _=>.tup []
def isDef:V→Bool
 | .undef=>false
 | _=>true
@[go_sem] theorem gsel_tt {v:V}:gsel (.bool true) true v=v:=_root_.id rfl
@[go_sem] theorem gsel_ff {v:V}:gsel (.bool false) false v=v:=_root_.id rfl
@[go_sem] theorem gsel_tf {v:V}:gsel (.bool true) false v=.tup []:=_root_.id rfl
@[go_sem] theorem gsel_ft {v:V}:gsel (.bool false) true v=.tup []:=_root_.id rfl
theorem gsel_self {b:Bool} {v:V}:gsel (.bool b) b v=v:=by simp [gsel]
theorem gsel_other {gv:V} {b:Bool} {v:V} (h:gv≠.bool b):gsel gv b v=.tup []:=by
 unfold gsel
 split
 ·split
  ·rename_i c hc; subst hc; exact absurd rfl h
  ·rfl
 ·rfl
@[go_sem] theorem isDef_bool {c:Bool}:isDef (.bool c)=true:=_root_.id rfl
@[go_sem] theorem isDef_gsel {gv:V} {b c:Bool}:isDef (gsel gv b (.bool c))=true:=by
 unfold gsel; split
 ·split<;>rfl
 ·rfl
theorem isDef_iff {v:V}:v≠.undef ↔ isDef v=true:=by cases v<;>simp [isDef]
def WkG (E:Env) (gv:V) (b:Bool) (o:Option V) (d:Option Nat) (cn:Cn) (ks:List KI) (F:Fr) (S:St) (Q:Ex→Fr→St→Prop):Prop :=
 isDef gv=true∧(gv=.bool b→o.isSome=true)∧Wk E cn ks (putO F d (gsel gv b (o.getD .undef))) S Q
@[go_sem] theorem WkG_some {c b:Bool} {v:V}:WkG E (.bool c) b (some v) d cn ks F S Q=Wk E cn ks (putO F d (gsel (.bool c) b v)) S Q:=by simp [WkG,isDef]
@[go_sem] theorem WkG_some2 {gv:V} {c b b':Bool} {v:V}:WkG E (gsel gv b' (.bool c)) b (some v) d cn ks F S Q=Wk E cn ks (putO F d (gsel (gsel gv b' (.bool c)) b v)) S Q:=by simp [WkG,isDef_gsel]
@[go_sem] theorem WkG_tt {o:Option V}:WkG E (.bool true) true o d cn ks F S Q=WkV E o d cn ks F S Q:=by simp [WkG,isDef,WkV,gsel]
@[go_sem] theorem WkG_ff {o:Option V}:WkG E (.bool false) false o d cn ks F S Q=WkV E o d cn ks F S Q:=by simp [WkG,isDef,WkV,gsel]
@[go_sem] theorem WkG_tf {o:Option V}:WkG E (.bool true) false o d cn ks F S Q=Wk E cn ks (putO F d (.tup [])) S Q:=by simp [WkG,isDef,gsel]
@[go_sem] theorem WkG_ft {o:Option V}:WkG E (.bool false) true o d cn ks F S Q=Wk E cn ks (putO F d (.tup [])) S Q:=by simp [WkG,isDef,gsel]
@[go_sem] theorem WkG_tup {vs:List V} {b:Bool} {o:Option V}:WkG E (.tup vs) b o d cn ks F S Q=Wk E cn ks (putO F d (.tup [])) S Q:=by simp [WkG,isDef,gsel]
theorem WkG_congr {gv:V} {b:Bool} {o o':Option V} (h:gv=.bool b→o=o'):WkG E gv b o d cn ks F S Q=WkG E gv b o' d cn ks F S Q:=by
 unfold WkG
 by_cases hb:gv=.bool b
 ·rw [h hb]
 ·rw [gsel_other hb,gsel_other hb]; simp [hb]
theorem Wn_val {op:AOp} {ok:Fr→St→Prop} {pan:V→St→Prop} (hop:isVal op=true):Wn E d op F S ok pan=((valO F S op).isSome=true∧ok (putO F d ((valO F S op).getD .undef)) S):=by
 cases op with
 | mv k x=>cases k with
  | false=>rfl
  | true=>cases hop
 | ld k n g x=>cases k with
  | false=>rfl
  | true=>cases hop
 | al z=>cases hop
 | box n x=>cases hop
 | st n x v=>cases hop
 | app e n b x y=>cases hop
 | call f xs=>cases hop
 | callv x xs=>cases hop
 | inv x m xs=>cases hop
 | pan x=>cases hop
 | mk e n b z x y=>cases hop
 | appr e n b x y lv=>cases hop
 | appb e n b x y=>cases hop
 | rowr e n ps=>cases hop
 | callw f xs=>cases hop
 | callr f e m xs=>cases hop
 | _=>rfl
theorem Wfn_val {op:AOp} {ok:Fr→Prop} (hop:isVal op=true):Wf.Wfn E d op F S ok=((valO F S op).isSome=true∧ok (putO F d ((valO F S op).getD .undef))):=by
 cases op with
 | mv k x=>cases k with
  | false=>rfl
  | true=>cases hop
 | ld k n g x=>cases k with
  | false=>rfl
  | true=>cases hop
 | al z=>cases hop
 | box n x=>cases hop
 | st n x v=>cases hop
 | app e n b x y=>cases hop
 | call f xs=>cases hop
 | callv x xs=>cases hop
 | inv x m xs=>cases hop
 | pan x=>cases hop
 | mk e n b z x y=>cases hop
 | appr e n b x y lv=>cases hop
 | appb e n b x y=>cases hop
 | rowr e n ps=>cases hop
 | callw f xs=>cases hop
 | callr f e m xs=>cases hop
 | _=>rfl
theorem Wk_val {op:AOp} (hop:isVal op=true):Wk E (.s (.seq ⟨d,op,none⟩::bs)) ks F S Q=WkV E (valO F S op) d (.s bs) ks F S Q:=by
 simp only [Wk,Wb,Wo,Wn_val hop,WkV]
theorem WkF_val {op:AOp} (hop:isVal op=true):Wk E (.f all (⟨d,op,none⟩::os) bs) ks F S Q=WkV E (valO F S op) d (.f all os bs) ks F S Q:=by
 simp only [Wk,WfL,Wf,Wfn_val hop,WkV]
theorem grd {gv:V} {b:Bool} {o:Option V} {P:V→Prop}:(gv≠.undef∧(gv=.bool b→o.isSome=true∧P (o.getD .undef))∧(gv≠.bool b→P (.tup [])))=(isDef gv=true∧(gv=.bool b→o.isSome=true)∧P (gsel gv b (o.getD .undef))):=by
 apply propext
 rw [isDef_iff]
 by_cases hb:gv=.bool b
 ·subst hb; simp [gsel_self]
 ·simp [hb,gsel_other hb]
theorem Wk_valG {op:AOp} {t:Nat} {b:Bool} (hop:isVal op=true):Wk E (.s (.seq ⟨d,op,some (t,b)⟩::bs)) ks F S Q=WkG E (F t) b (valO F S op) d (.s bs) ks F S Q:=by
 simp only [Wk,Wb,Wo,Wn_val hop,WkG]
 exact grd (P:=fun v=>Wb E bs (putO F d v) S fun e F S=>RunE E ks e F S Q)
theorem WkF_valG {op:AOp} {t:Nat} {b:Bool} (hop:isVal op=true):Wk E (.f all (⟨d,op,some (t,b)⟩::os) bs) ks F S Q=WkG E (F t) b (valO F S op) d (.f all os bs) ks F S Q:=by
 simp only [Wk,WfL,Wf,Wfn_val hop,WkG]
 exact grd (P:=fun v=>WfL E all os (putO F d v) S fun F S=>Wb E bs F S fun e F S=>RunE E ks e F S Q)
@[go_sem] theorem Wk_mv {x:Opd}:Wk E (.s (.seq ⟨d, .mv false x,none⟩::bs)) ks F S Q=WkV E (cp (evO F x)) d (.s bs) ks F S Q:=Wk_val rfl
@[go_sem] theorem WkF_mv {x:Opd}:Wk E (.f all (⟨d, .mv false x,none⟩::os) bs) ks F S Q=WkV E (cp (evO F x)) d (.f all os bs) ks F S Q:=WkF_val rfl
@[go_sem] theorem WkG_mv {x:Opd} {t:Nat} {b:Bool}:Wk E (.s (.seq ⟨d, .mv false x,some (t,b)⟩::bs)) ks F S Q=WkG E (F t) b (cp (evO F x)) d (.s bs) ks F S Q:=Wk_valG rfl
@[go_sem] theorem WkFG_mv {x:Opd} {t:Nat} {b:Bool}:Wk E (.f all (⟨d, .mv false x,some (t,b)⟩::os) bs) ks F S Q=WkG E (F t) b (cp (evO F x)) d (.f all os bs) ks F S Q:=WkF_valG rfl
@[go_sem] theorem Wk_pick {x y z:Opd}:Wk E (.s (.seq ⟨d, .pick x y z,none⟩::bs)) ks F S Q=WkV E (pickO (evO F x) (evO F y) (evO F z)) d (.s bs) ks F S Q:=Wk_val rfl
@[go_sem] theorem WkG_pick {x y z:Opd} {t:Nat} {b:Bool}:Wk E (.s (.seq ⟨d, .pick x y z,some (t,b)⟩::bs)) ks F S Q=WkG E (F t) b (pickO (evO F x) (evO F y) (evO F z)) d (.s bs) ks F S Q:=Wk_valG rfl
@[go_sem] theorem Wk_bld {z:List V} {ps:List (Nat×Nat×Opd)}:Wk E (.s (.seq ⟨d, .bld z ps,none⟩::bs)) ks F S Q=WkV E ((fill F z ps).map V.agg) d (.s bs) ks F S Q:=Wk_val rfl
@[go_sem] theorem WkF_bld {z:List V} {ps:List (Nat×Nat×Opd)}:Wk E (.f all (⟨d, .bld z ps,none⟩::os) bs) ks F S Q=WkV E ((fill F z ps).map V.agg) d (.f all os bs) ks F S Q:=WkF_val rfl
@[go_sem] theorem Wk_row {e n:Nat} {ps:List Opd}:Wk E (.s (.seq ⟨d, .row e n ps,none⟩::bs)) ks F S Q=WkV E (rowO e n ps.length (rows F n ps)) d (.s bs) ks F S Q:=Wk_val rfl
@[go_sem] theorem WkF_row {e n:Nat} {ps:List Opd}:Wk E (.f all (⟨d, .row e n ps,none⟩::os) bs) ks F S Q=WkV E (rowO e n ps.length (rows F n ps)) d (.f all os bs) ks F S Q:=WkF_val rfl
@[go_sem] theorem Wk_ld {n:Nat} {g:Bool} {x:Opd}:Wk E (.s (.seq ⟨d, .ld false n g x,none⟩::bs)) ks F S Q=WkV E (ldO S n g (evO F x)) d (.s bs) ks F S Q:=Wk_val rfl
@[go_sem] theorem WkF_ld {n:Nat} {g:Bool} {x:Opd}:Wk E (.f all (⟨d, .ld false n g x,none⟩::os) bs) ks F S Q=WkV E (ldO S n g (evO F x)) d (.f all os bs) ks F S Q:=WkF_val rfl
@[go_sem] theorem WkG_ld {n:Nat} {g:Bool} {x:Opd} {t:Nat} {b:Bool}:Wk E (.s (.seq ⟨d, .ld false n g x,some (t,b)⟩::bs)) ks F S Q=WkG E (F t) b (ldO S n g (evO F x)) d (.s bs) ks F S Q:=Wk_valG rfl
@[go_sem] theorem WkFG_ld {n:Nat} {g:Bool} {x:Opd} {t:Nat} {b:Bool}:Wk E (.f all (⟨d, .ld false n g x,some (t,b)⟩::os) bs) ks F S Q=WkG E (F t) b (ldO S n g (evO F x)) d (.f all os bs) ks F S Q:=WkF_valG rfl
@[go_sem] theorem Wk_nc {x:Opd}:Wk E (.s (.seq ⟨d, .nc x,none⟩::bs)) ks F S Q=WkV E (ncO (evO F x)) d (.s bs) ks F S Q:=Wk_val rfl
@[go_sem] theorem WkF_nc {x:Opd}:Wk E (.f all (⟨d, .nc x,none⟩::os) bs) ks F S Q=WkV E (ncO (evO F x)) d (.f all os bs) ks F S Q:=WkF_val rfl
@[go_sem] theorem WkG_nc {x:Opd} {t:Nat} {b:Bool}:Wk E (.s (.seq ⟨d, .nc x,some (t,b)⟩::bs)) ks F S Q=WkG E (F t) b (ncO (evO F x)) d (.s bs) ks F S Q:=Wk_valG rfl
@[go_sem] theorem WkFG_nc {x:Opd} {t:Nat} {b:Bool}:Wk E (.f all (⟨d, .nc x,some (t,b)⟩::os) bs) ks F S Q=WkG E (F t) b (ncO (evO F x)) d (.f all os bs) ks F S Q:=WkF_valG rfl
@[go_sem] theorem Wk_bin {op:BinOp} {tk:Nat} {x y:Opd}:Wk E (.s (.seq ⟨d, .bin op tk x y,none⟩::bs)) ks F S Q=WkV E (bin op tk (evO F x) (evO F y)) d (.s bs) ks F S Q:=Wk_val rfl
@[go_sem] theorem WkF_bin {op:BinOp} {tk:Nat} {x y:Opd}:Wk E (.f all (⟨d, .bin op tk x y,none⟩::os) bs) ks F S Q=WkV E (bin op tk (evO F x) (evO F y)) d (.f all os bs) ks F S Q:=WkF_val rfl
@[go_sem] theorem WkG_bin {op:BinOp} {tk:Nat} {x y:Opd} {t:Nat} {b:Bool}:Wk E (.s (.seq ⟨d, .bin op tk x y,some (t,b)⟩::bs)) ks F S Q=WkG E (F t) b (bin op tk (evO F x) (evO F y)) d (.s bs) ks F S Q:=Wk_valG rfl
@[go_sem] theorem Wk_un {op:UnOp} {x:Opd}:Wk E (.s (.seq ⟨d, .un op x,none⟩::bs)) ks F S Q=WkV E (un op (evO F x)) d (.s bs) ks F S Q:=Wk_val rfl
@[go_sem] theorem WkG_un {op:UnOp} {x:Opd} {t:Nat} {b:Bool}:Wk E (.s (.seq ⟨d, .un op x,some (t,b)⟩::bs)) ks F S Q=WkG E (F t) b (un op (evO F x)) d (.s bs) ks F S Q:=Wk_valG rfl
@[go_sem] theorem Wk_cv {k:IntKind} {x:Opd}:Wk E (.s (.seq ⟨d, .cv k x,none⟩::bs)) ks F S Q=WkV E (cvO k (evO F x)) d (.s bs) ks F S Q:=Wk_val rfl
@[go_sem] theorem Wk_mki {i:Nat} {x:Opd}:Wk E (.s (.seq ⟨d, .mki i x,none⟩::bs)) ks F S Q=WkV E (mkiO i (evO F x)) d (.s bs) ks F S Q:=Wk_val rfl
@[go_sem] theorem Wk_fn {f:Nat} {cs:List Opd}:Wk E (.s (.seq ⟨d, .fn f cs,none⟩::bs)) ks F S Q=WkV E (fnO f (cs.map fun c=>evO F c)) d (.s bs) ks F S Q:=Wk_val rfl
@[go_sem] theorem WkG_fn {f:Nat} {cs:List Opd} {t:Nat} {b:Bool}:Wk E (.s (.seq ⟨d, .fn f cs,some (t,b)⟩::bs)) ks F S Q=WkG E (F t) b (fnO f (cs.map fun c=>evO F c)) d (.s bs) ks F S Q:=Wk_valG rfl
@[go_sem] theorem WkF_cut {n:Nat} {x:Opd} {lo hi:Option Opd}:Wk E (.f all (⟨d, .cut n x lo hi,none⟩::os) bs) ks F S Q=WkV E (cutO n (evO F x) (lo.map (evO F)) (hi.map (evO F))) d (.f all os bs) ks F S Q:=WkF_val rfl
@[go_sem] theorem Wk_fa {o:Nat} {x:Opd}:Wk E (.s (.seq ⟨d, .fa o x,none⟩::bs)) ks F S Q=WkV E (faO o (evO F x)) d (.s bs) ks F S Q:=Wk_val rfl
@[go_sem] theorem WkF_fa {o:Nat} {x:Opd}:Wk E (.f all (⟨d, .fa o x,none⟩::os) bs) ks F S Q=WkV E (faO o (evO F x)) d (.f all os bs) ks F S Q:=WkF_val rfl
@[go_sem] theorem WkG_fa {o:Nat} {x:Opd} {t:Nat} {b:Bool}:Wk E (.s (.seq ⟨d, .fa o x,some (t,b)⟩::bs)) ks F S Q=WkG E (F t) b (faO o (evO F x)) d (.s bs) ks F S Q:=Wk_valG rfl
@[go_sem] theorem WkFG_fa {o:Nat} {x:Opd} {t:Nat} {b:Bool}:Wk E (.f all (⟨d, .fa o x,some (t,b)⟩::os) bs) ks F S Q=WkG E (F t) b (faO o (evO F x)) d (.f all os bs) ks F S Q:=WkF_valG rfl
@[go_sem] theorem Wk_ia {n:Nat} {x i:Opd}:Wk E (.s (.seq ⟨d, .ia n x i,none⟩::bs)) ks F S Q=WkV E (iaO n (evO F x) (evO F i)) d (.s bs) ks F S Q:=Wk_val rfl
@[go_sem] theorem WkF_ia {n:Nat} {x i:Opd}:Wk E (.f all (⟨d, .ia n x i,none⟩::os) bs) ks F S Q=WkV E (iaO n (evO F x) (evO F i)) d (.f all os bs) ks F S Q:=WkF_val rfl
@[go_sem] theorem WkG_ia {n:Nat} {x i:Opd} {t:Nat} {b:Bool}:Wk E (.s (.seq ⟨d, .ia n x i,some (t,b)⟩::bs)) ks F S Q=WkG E (F t) b (iaO n (evO F x) (evO F i)) d (.s bs) ks F S Q:=Wk_valG rfl
@[go_sem] theorem WkFG_ia {n:Nat} {x i:Opd} {t:Nat} {b:Bool}:Wk E (.f all (⟨d, .ia n x i,some (t,b)⟩::os) bs) ks F S Q=WkG E (F t) b (iaO n (evO F x) (evO F i)) d (.f all os bs) ks F S Q:=WkF_valG rfl
@[go_sem] theorem Wk_sx {x i:Opd}:Wk E (.s (.seq ⟨d, .sx x i,none⟩::bs)) ks F S Q=WkV E (sxO (evO F x) (evO F i)) d (.s bs) ks F S Q:=Wk_val rfl
@[go_sem] theorem WkG_sx {x i:Opd} {t:Nat} {b:Bool}:Wk E (.s (.seq ⟨d, .sx x i,some (t,b)⟩::bs)) ks F S Q=WkG E (F t) b (sxO (evO F x) (evO F i)) d (.s bs) ks F S Q:=Wk_valG rfl
@[go_sem] theorem Wk_ax {n len:Nat} {g:Bool} {x i:Opd}:Wk E (.s (.seq ⟨d, .ax n len g x i,none⟩::bs)) ks F S Q=WkV E (axO n len g (evO F x) (evO F i)) d (.s bs) ks F S Q:=Wk_val rfl
@[go_sem] theorem Wk_ex {i:Nat} {x:Opd}:Wk E (.s (.seq ⟨d, .ex x i,none⟩::bs)) ks F S Q=WkV E (exO i (evO F x)) d (.s bs) ks F S Q:=Wk_val rfl
@[go_sem] theorem WkF_ex {i:Nat} {x:Opd}:Wk E (.f all (⟨d, .ex x i,none⟩::os) bs) ks F S Q=WkV E (exO i (evO F x)) d (.f all os bs) ks F S Q:=WkF_val rfl
@[go_sem] theorem Wk_len {s:Bool} {x:Opd}:Wk E (.s (.seq ⟨d, .len s x,none⟩::bs)) ks F S Q=WkV E (lenO s (evO F x)) d (.s bs) ks F S Q:=Wk_val rfl
@[go_sem] theorem WkF_len {s:Bool} {x:Opd}:Wk E (.f all (⟨d, .len s x,none⟩::os) bs) ks F S Q=WkV E (lenO s (evO F x)) d (.f all os bs) ks F S Q:=WkF_val rfl
@[go_sem] theorem WkG_len {s:Bool} {x:Opd} {t:Nat} {b:Bool}:Wk E (.s (.seq ⟨d, .len s x,some (t,b)⟩::bs)) ks F S Q=WkG E (F t) b (lenO s (evO F x)) d (.s bs) ks F S Q:=Wk_valG rfl
@[go_sem] theorem WkFG_len {s:Bool} {x:Opd} {t:Nat} {b:Bool}:Wk E (.f all (⟨d, .len s x,some (t,b)⟩::os) bs) ks F S Q=WkG E (F t) b (lenO s (evO F x)) d (.f all os bs) ks F S Q:=WkF_valG rfl
@[go_sem] theorem Wk_mm {mx:Bool} {x y:Opd}:Wk E (.s (.seq ⟨d, .mm mx x y,none⟩::bs)) ks F S Q=WkV E (mmO mx (evO F x) (evO F y)) d (.s bs) ks F S Q:=Wk_val rfl
@[go_sem] theorem Wk_isn {neg:Bool} {x:Opd}:Wk E (.s (.seq ⟨d, .isn neg x,none⟩::bs)) ks F S Q=WkV E (isnO neg (evO F x)) d (.s bs) ks F S Q:=Wk_val rfl
@[go_sem] theorem abs_cp {gv:V} {b:Bool} {x:V} :WkG E gv b (cp (gsel gv b x)) d cn ks F S Q=WkG E gv b (cp x) d cn ks F S Q:=WkG_congr fun h=>by subst h; rw [gsel_self]
@[go_sem] theorem abs_pick1 {gv:V} {b:Bool} {x:V} {y z:V}:WkG E gv b (pickO (gsel gv b x) y z) d cn ks F S Q=WkG E gv b (pickO x y z) d cn ks F S Q:=WkG_congr fun h=>by subst h; rw [gsel_self]
@[go_sem] theorem abs_ld {gv:V} {b:Bool} {x:V} {n:Nat} {g:Bool}:WkG E gv b (ldO S n g (gsel gv b x)) d cn ks F S Q=WkG E gv b (ldO S n g x) d cn ks F S Q:=WkG_congr fun h=>by subst h; rw [gsel_self]
@[go_sem] theorem abs_nc {gv:V} {b:Bool} {x:V} :WkG E gv b (ncO (gsel gv b x)) d cn ks F S Q=WkG E gv b (ncO x) d cn ks F S Q:=WkG_congr fun h=>by subst h; rw [gsel_self]
@[go_sem] theorem abs_bin1 {gv:V} {b:Bool} {x:V} {op:BinOp} {tk:Nat} {y:V}:WkG E gv b (bin op tk (gsel gv b x) y) d cn ks F S Q=WkG E gv b (bin op tk x y) d cn ks F S Q:=WkG_congr fun h=>by subst h; rw [gsel_self]
@[go_sem] theorem abs_bin2 {gv:V} {b:Bool} {x:V} {op:BinOp} {tk:Nat} {y:V}:WkG E gv b (bin op tk y (gsel gv b x)) d cn ks F S Q=WkG E gv b (bin op tk y x) d cn ks F S Q:=WkG_congr fun h=>by subst h; rw [gsel_self]
@[go_sem] theorem abs_un {gv:V} {b:Bool} {x:V} {op:UnOp}:WkG E gv b (un op (gsel gv b x)) d cn ks F S Q=WkG E gv b (un op x) d cn ks F S Q:=WkG_congr fun h=>by subst h; rw [gsel_self]
@[go_sem] theorem abs_fa {gv:V} {b:Bool} {x:V} {o:Nat}:WkG E gv b (faO o (gsel gv b x)) d cn ks F S Q=WkG E gv b (faO o x) d cn ks F S Q:=WkG_congr fun h=>by subst h; rw [gsel_self]
@[go_sem] theorem abs_ia1 {gv:V} {b:Bool} {x:V} {n:Nat} {y:V}:WkG E gv b (iaO n (gsel gv b x) y) d cn ks F S Q=WkG E gv b (iaO n x y) d cn ks F S Q:=WkG_congr fun h=>by subst h; rw [gsel_self]
@[go_sem] theorem abs_ia2 {gv:V} {b:Bool} {x:V} {n:Nat} {y:V}:WkG E gv b (iaO n y (gsel gv b x)) d cn ks F S Q=WkG E gv b (iaO n y x) d cn ks F S Q:=WkG_congr fun h=>by subst h; rw [gsel_self]
@[go_sem] theorem abs_sx1 {gv:V} {b:Bool} {x:V} {y:V}:WkG E gv b (sxO (gsel gv b x) y) d cn ks F S Q=WkG E gv b (sxO x y) d cn ks F S Q:=WkG_congr fun h=>by subst h; rw [gsel_self]
@[go_sem] theorem abs_sx2 {gv:V} {b:Bool} {x:V} {y:V}:WkG E gv b (sxO y (gsel gv b x)) d cn ks F S Q=WkG E gv b (sxO y x) d cn ks F S Q:=WkG_congr fun h=>by subst h; rw [gsel_self]
@[go_sem] theorem abs_len {gv:V} {b:Bool} {x:V} {s:Bool}:WkG E gv b (lenO s (gsel gv b x)) d cn ks F S Q=WkG E gv b (lenO s x) d cn ks F S Q:=WkG_congr fun h=>by subst h; rw [gsel_self]
@[go_sem] theorem beq_tf:(true == false)=false:=_root_.id rfl
@[go_sem] theorem beq_ft:(false == true)=false:=_root_.id rfl
@[go_sem] theorem beq_tt:(true == true)=true:=_root_.id rfl
@[go_sem] theorem beq_ff:(false == false)=true:=_root_.id rfl
theorem gnest {a b' d b:Bool}:gsel (.bool a) b' (.bool d)=.bool b ↔ ((a == b')&&(d == b))=true:=by cases a<;>cases b'<;>cases d<;>cases b<;>simp [gsel]
@[go_sem] theorem nest_gsel {a b' d b:Bool} {v:V}:gsel (gsel (.bool a) b' (.bool d)) b v=gsel (.bool ((a == b')&&(d == b))) true v:=by cases a<;>cases b'<;>cases d<;>cases b<;>rfl
@[go_sem] theorem nest_WkG {a b' d b:Bool} {o:Option V}:WkG E (gsel (.bool a) b' (.bool d)) b o d' cn ks F S Q=WkG E (.bool ((a == b')&&(d == b))) true o d' cn ks F S Q:=by
 simp only [WkG,isDef_gsel,isDef_bool,gnest,nest_gsel,V.bool.injEq]
@[go_sem] theorem nest_and {a b d x:Bool}:WkG E (.bool a) b (pickO (.bool d) (gsel (.bool ((a == b)&&(d == true))) true (.bool x)) (.bool false)) d' cn ks F S Q=WkG E (.bool a) b (some (.bool (d&&x))) d' cn ks F S Q:=WkG_congr fun h=>by cases h; cases a<;>cases d<;>rfl
@[go_sem] theorem Wk_mvt {s:Nat}:Wk E (.s (.seq ⟨d, .mv true (.t s),none⟩::bs)) ks F S Q=(tame (F s)=true∧Wk E (.s bs) ks (putO (put F s (strip (F s))) d (F s)) S Q):=_root_.id rfl
@[go_sem] theorem WkF_mvt {s:Nat}:Wk E (.f all (⟨d, .mv true (.t s),none⟩::os) bs) ks F S Q=(tame (F s)=true∧Wk E (.f all os bs) ks (putO (put F s (strip (F s))) d (F s)) S Q):=_root_.id rfl
@[go_sem] theorem Wk_mvc {v:V}:Wk E (.s (.seq ⟨d, .mv true (.c v),none⟩::bs)) ks F S Q=Wk E (.s bs) ks (putO F d v) S Q:=_root_.id rfl
def blen (bs:List (List V)):Nat:=bs.length
def bget (bs:List (List V)) (i:Nat):Option (List V):=dz bs[i]?
def bset (bs:List (List V)) (i:Nat) (x:List V):List (List V):=bs.set i x
def badd (bs:List (List V)) (x:List V):List (List V):=bs++[x]
@[go_sem] theorem Wk_al {z:List V}:Wk E (.s (.seq ⟨d, .al z,none⟩::bs)) ks F (⟨B,lp⟩::R) Q=Wk E (.s bs) ks (putO F d (.ptr R.length (blen B) 0)) (⟨badd B z,lp⟩::R) Q:=_root_.id rfl
@[go_sem] theorem WkF_al {z:List V}:Wk E (.f all (⟨d, .al z,none⟩::os) bs) ks F S Q=Wk E (.f all os bs) ks (putO F d (.fresh z)) S Q:=_root_.id rfl
def WkS (E:Env) (os:List AOper) (bs:List Blk) (ks:List KI) (F:Fr) (S:St) (Q:Ex→Fr→St→Prop):Prop:=Wk E (.s bs) ks (settle os F S).1 (settle os F S).2 Q
theorem Wk_enter:Wk E (.f all [] bs) ks F S Q=WkS E all bs ks F S Q:=rfl
def WkSv (E:Env) (v:V) (d:Nat) (op:AOp) (gd:Option (Nat×Bool)) (os:List AOper) (bs:List Blk) (ks:List KI) (F:Fr) (S:St) (Q:Ex→Fr→St→Prop):Prop:=F d=v→WkS E (⟨some d,op,gd⟩::os) bs ks F S Q
@[go_sem] theorem WkS_nil:WkS E [] bs ks F S Q=Wk E (.s bs) ks F S Q:=_root_.id rfl
@[go_sem] theorem WkS_some {op:AOp} {gd:Option (Nat×Bool)} {d:Nat}:WkS E (⟨some d,op,gd⟩::os) bs ks F S Q=WkSv E (F d) d op gd os bs ks F S Q:=propext ⟨fun h _=>h,fun h=>h rfl⟩
@[go_sem] theorem WkSv_tame' {v:V} {op:AOp} {gd:Option (Nat×Bool)} {d:Nat} (h:tame v=true) (hv:F d=v):WkSv E v d op gd os bs ks F S Q=WkS E os bs ks F S Q:=by
 have h1:settle1 ⟨some d,op,gd⟩ F S=(F,S):=settle1_same fun d' hd=>by cases hd; rw [hv]; exact h
 simp only [WkSv,hv,true_implies,WkS,settle,h1]
@[go_sem] theorem WkSv_fresh' {z:List V} {op:AOp} {gd:Option (Nat×Bool)} {d:Nat} {B:List (List V)} {lp:Option Lp} {R:St} (hv:F d=.fresh z):WkSv E (.fresh z) d op gd os bs ks F (⟨B,lp⟩::R) Q=WkS E os bs ks (put F d (.ptr R.length (blen B) 0)) (⟨badd B z,lp⟩::R) Q:=by
 simp only [WkSv,hv,true_implies,WkS,settle,settle1]; rfl
def StoF (E:Env) (x:V) (c:Option (List V)) (n s:Nat) (d:Option Nat) (cn:Cn) (ks:List KI) (F:Fr) (S:St) (Q:Ex→Fr→St→Prop):Prop:=Wf.stF x c n s d F fun F=>Wk E cn ks F S Q
def Box (E:Env) (c:Option (List V)) (n:Nat) (d:Option Nat) (cn:Cn) (ks:List KI) (F:Fr) (S:St) (Q:Ex→Fr→St→Prop):Prop:=boxK c n d F S fun F S=>Wk E cn ks F S Q
@[go_sem] theorem Wk_box {n:Nat} {x:Opd}:Wk E (.s (.seq ⟨d, .box n x,none⟩::bs)) ks F S Q=Box E (cellsOf (strip (evO F x))) n d (.s bs) ks F S Q:=_root_.id rfl
@[go_sem] theorem Box_some {cs:List V} {n:Nat}:Box E (some cs) n d cn ks F (⟨B,lp⟩::R) Q=(cs.length=n∧Wk E cn ks (putO F d (.ptr R.length (blen B) 0)) (⟨badd B cs,lp⟩::R) Q):=_root_.id rfl
def Sto (E:Env) (x:V) (c:Option (List V)) (n:Nat) (cn:Cn) (ks:List KI) (F:Fr) (S:St) (Q:Ex→Fr→St→Prop):Prop:=stK x c n F S fun F S=>Wk E cn ks F S Q
@[go_sem] theorem Wk_st {n:Nat} {x y:Opd}:Wk E (.s (.seq ⟨d, .st n x y,none⟩::bs)) ks F S Q=Sto E (evO F x) (cellsOf (evO F y)) n (.s bs) ks (putO (unown F y) d (.tup [])) S Q:=_root_.id rfl
def StoB (E:Env) (c:Option (List V)) (o:Nat) (vs:List V) (n l i:Nat) (cn:Cn) (ks:List KI) (F:Fr) (S:St) (Q:Ex→Fr→St→Prop):Prop:=c.isSome=true∧vs.length=n∧o+n≤(c.getD []).length∧lowL (l+1) vs=true∧Wk E cn ks F (setBox S l i (setAt (c.getD []) o vs)) Q
@[go_sem] theorem Sto_ptr {n l i o:Nat} {vs:List V}:Sto E (.ptr l i o) (some vs) n cn ks F S Q=StoB E (getBox S l i) o vs n l i cn ks F S Q:=_root_.id rfl
@[go_sem] theorem StoB_some {n l i o:Nat} {cs vs:List V}:StoB E (some cs) o vs n l i cn ks F S Q=(vs.length=n∧o+n≤cs.length∧lowL (l+1) vs=true∧Wk E cn ks F (setBox S l i (setAt cs o vs)) Q):=by simp [StoB]
@[go_sem] theorem unown_t {s:Nat}:unown F (.t s)=put F s (strip (F s)):=_root_.id rfl
@[go_sem] theorem unown_c {v:V}:unown F (.c v)=F:=_root_.id rfl
def appO (e n b:Nat) (x y:V):Option V :=
 match x,y with
 | .slice k xs, .slice _ ys =>
  if mayGrow k e xs.length=true∧allLen n ys=true∧(xs.length+ys.length)*b≤140737488355328∧xs.length+ys.length≤140737488355328 then some (appV k e xs ys) else none
 | _,_=>none
@[go_sem] theorem Wk_app {e n b:Nat} {x y:Opd}:Wk E (.s (.seq ⟨d, .app e n b x y,none⟩::bs)) ks F S Q=WkV E (appO e n b (evO F x) (evO F y)) d (.s bs) ks (unown F x) S Q:=_root_.id rfl
@[go_sem] theorem WkF_app {e n b:Nat} {x y:Opd}:Wk E (.f all (⟨d, .app e n b x y,none⟩::os) bs) ks F S Q=WkV E (appO e n b (evO F x) (evO F y)) d (.f all os bs) ks (unown F x) S Q:=_root_.id rfl
def Tak (E:Env) (x:V) (n:Nat) (g:Bool) (d:Option Nat) (cn:Cn) (ks:List KI) (F:Fr) (S:St) (Q:Ex→Fr→St→Prop):Prop:=ldtK x n g d F S fun F S=>Wk E cn ks F S Q
def TakB (E:Env) (c:Option (List V)) (o n:Nat) (g:Bool) (l i:Nat) (d:Option Nat) (cn:Cn) (ks:List KI) (F:Fr) (S:St) (Q:Ex→Fr→St→Prop):Prop:=ldtK (.ptr l i o) n g d F S fun F S=>Wk E cn ks F S Q
@[go_sem] theorem Wk_ldt {n:Nat} {g:Bool} {x:Opd}:Wk E (.s (.seq ⟨d, .ld true n g x,none⟩::bs)) ks F S Q=Tak E (evO F x) n g d (.s bs) ks F S Q:=_root_.id rfl
def Call (E:Env) (f:Nat) (args:List V) (d:Option Nat) (cn:Cn) (ks:List KI) (F:Fr) (S:St) (Q:Ex→Fr→St→Prop):Prop :=
 match cn with
 | .s bs=>callK E f args d F S (fun F S=>Wk E (.s bs) ks F S Q) fun v S=>RunE E ks (.pan v) F S Q
 | .f all os bs=>callFK E f args S fun v=>Wk E (.f all os bs) ks (putO F d v) S Q
@[go_sem] theorem Wk_call {f:Nat} {xs:List Opd}:Wk E (.s (.seq ⟨d, .call f xs,none⟩::bs)) ks F S Q=Call E f (xs.map fun x=>strip (evO F x)) d (.s bs) ks F S Q:=_root_.id rfl
@[go_sem] theorem WkF_call {f:Nat} {xs:List Opd}:Wk E (.f all (⟨d, .call f xs,none⟩::os) bs) ks F S Q=Call E f (xs.map fun x=>strip (evO F x)) d (.f all os bs) ks F S Q:=_root_.id rfl
def CallG (E:Env) (f:Nat) (args:List V) (gv:V) (b:Bool) (d:Option Nat) (cn:Cn) (ks:List KI) (F:Fr) (S:St) (Q:Ex→Fr→St→Prop):Prop :=
 gv≠.undef∧(gv=.bool b→Call E f args d cn ks F S Q)∧(gv≠.bool b→Wk E cn ks (putO F d (.tup [])) S Q)
@[go_sem] theorem WkG_call {f:Nat} {xs:List Opd} {t:Nat} {b:Bool}:Wk E (.s (.seq ⟨d, .call f xs,some (t,b)⟩::bs)) ks F S Q=CallG E f (xs.map fun x=>strip (evO F x)) (F t) b d (.s bs) ks F S Q:=_root_.id rfl
theorem CallG_congr {f:Nat} {as as':List V} {gv:V} {b:Bool} (h:gv=.bool b→as=as'):CallG E f as gv b d cn ks F S Q=CallG E f as' gv b d cn ks F S Q:=by
 unfold CallG
 by_cases hb:gv=.bool b
 ·rw [h hb]
 ·simp [hb]
@[go_sem] theorem CallG_t {f:Nat} {as:List V}:CallG E f as (.bool true) true d cn ks F S Q=Call E f as d cn ks F S Q:=by simp [CallG]
@[go_sem] theorem CallG_f {f:Nat} {as:List V}:CallG E f as (.bool false) false d cn ks F S Q=Call E f as d cn ks F S Q:=by simp [CallG]
@[go_sem] theorem CallG_tf {f:Nat} {as:List V}:CallG E f as (.bool true) false d cn ks F S Q=Wk E cn ks (putO F d (.tup [])) S Q:=by simp [CallG]
@[go_sem] theorem CallG_1 {f:Nat} {gv:V} {b:Bool} {x:V} {as:List V}:CallG E f (gsel gv b x::as) gv b d cn ks F S Q=CallG E f (x::as) gv b d cn ks F S Q:=CallG_congr fun h=>by subst h; rw [gsel_self]
@[go_sem] theorem CallG_2 {f:Nat} {gv:V} {b:Bool} {x y:V} {as:List V}:CallG E f (y::gsel gv b x::as) gv b d cn ks F S Q=CallG E f (y::x::as) gv b d cn ks F S Q:=CallG_congr fun h=>by subst h; rw [gsel_self]
def Callv (E:Env) (x:V) (xs:List V) (d:Option Nat) (cn:Cn) (ks:List KI) (F:Fr) (S:St) (Q:Ex→Fr→St→Prop):Prop:=callvK E x xs d F S (fun F S=>Wk E cn ks F S Q) fun v S=>RunE E ks (.pan v) F S Q
@[go_sem] theorem Wk_callv {x:Opd} {xs:List Opd}:Wk E (.s (.seq ⟨d, .callv x xs,none⟩::bs)) ks F S Q=Callv E (evO F x) (xs.map (evO F)) d (.s bs) ks F S Q:=_root_.id rfl
def Inv' (E:Env) (x:V) (m:String) (xs:List V) (d:Option Nat) (cn:Cn) (ks:List KI) (F:Fr) (S:St) (Q:Ex→Fr→St→Prop):Prop:=invK E x m xs d F S (fun F S=>Wk E cn ks F S Q) fun v S=>RunE E ks (.pan v) F S Q
@[go_sem] theorem Wk_inv {x:Opd} {m:String} {xs:List Opd}:Wk E (.s (.seq ⟨d, .inv x m xs,none⟩::bs)) ks F S Q=Inv' E (evO F x) m (xs.map (evO F)) d (.s bs) ks F S Q:=_root_.id rfl
def Pan (E:Env) (x:V) (ks:List KI) (F:Fr) (S:St) (Q:Ex→Fr→St→Prop):Prop:=match x with | .ifc t v=>low 0 (.ifc t v)=true∧RunE E ks (.pan (.ifc t v)) F S Q | _=>False
@[go_sem] theorem Wk_pan {x:Opd}:Wk E (.s (.seq ⟨d, .pan x,none⟩::bs)) ks F S Q=Pan E (evO F x) ks F S Q:=_root_.id rfl
@[go_sem] theorem Pan_ifc {t:Nat} {v:V}:Pan E (.ifc t v) ks F S Q=(low 0 (.ifc t v)=true∧RunE E ks (.pan (.ifc t v)) F S Q):=_root_.id rfl
structure Sp (E:Env) (f:Nat) (args:List V) (v:V):Prop where
 s:∀ S,CallIs E (.fn f) args S (.ret v) S
 a:lowL 0 args=true
 l:∀ n,low n v=true
theorem tames_low:∀ {vs:List V},lowL 0 vs=true→tames vs=true
 | [],_=>rfl
 | v::vs,h=>by
  simp only [lowL,Bool.and_eq_true] at h
  simp only [tames,Bool.and_eq_true]
  refine ⟨?_,tames_low h.2⟩
  cases v<;>first | rfl | simp [low] at h
theorem Sp.call {f:Nat} {args:List V} {v:V} (h:Sp E f args v):Call E f args d cn ks F S Q=Wk E cn ks (putO F d v) S Q:=by
 unfold Call
 cases cn with
 | s bs =>
  simp only [callK,h.a,if_true]
  rw [(h.s []).q]
  simp [h.l]
 | f all os bs =>
  simp only [callFK,h.a,if_true]
  rw [(h.s []).q]
  simp [h.l]
theorem Sp.callG {f:Nat} {args:List V} {v gv:V} {b:Bool} (h:Sp E f args v):CallG E f args gv b d cn ks F S Q=(isDef gv=true∧Wk E cn ks (putO F d (gsel gv b v)) S Q):=by
 unfold CallG
 rw [h.call,isDef_iff]
 by_cases hb:gv=.bool b
 ·subst hb; simp [gsel_self]
 ·simp [hb,gsel_other hb]
theorem Sp.callv {f:Nat} {args xs cs:List V} {v:V} (h:Sp E f args v) (ha:(xs++cs).map strip=args):Callv E (.func (.func f) cs) xs d cn ks F (⟨L,none⟩::R) Q=Wk E cn ks (putO F d v) (⟨L,none⟩::R) Q:=by
 subst ha
 simp only [Callv,callvK,tames_low h.a,true_and]
 rw [(h.s _).q]
 rfl
theorem Sp.callv0 {f:Nat} {args:List V} {v:V} (h:Sp E f args v) (ha:args.map strip=args):Callv E (.func (.func f) []) args d cn ks F (⟨L,none⟩::R) Q=Wk E cn ks (putO F d v) (⟨L,none⟩::R) Q:=h.callv (by rw [List.append_nil,ha])
structure SpO (E:Env) (f:Nat) (args:List V) (o:Out):Prop where
 s:∀ S,CallIs E (.fn f) args S o S
 a:lowL 0 args=true
 l:match o with | .ret v=>∀ n,low n v=true | .pan v=>∀ n,low n v=true | .esc _ _=>False
theorem SpO.ret {f:Nat} {args:List V} {v:V} (h:SpO E f args (.ret v)):Sp E f args v:=⟨h.s,h.a,h.l⟩
theorem SpO.pan {f:Nat} {args:List V} {v:V} (h:SpO E f args (.pan v)):Call E f args d (.s bs) ks F S Q=RunE E ks (.pan v) F S Q:=by
 have:=h.l
 simp only [Call,callK,h.a,if_true]
 rw [(h.s []).q]
 simp [this]
theorem CallP {f:Nat} {args:List V} {o:Out} {S':St} (h:CallIs E (.fn f) args S o S') (hl:lowL 0 args=false) (ht:tames args=true):Call E f args d (.s bs) ks F S Q=backW F d (fun F S=>Wk E (.s bs) ks F S Q) (fun v S=>RunE E ks (.pan v) F S Q) o S':=by
 simp only [Call,callK,hl,Bool.false_eq_true,if_false,ht,true_and]
 exact h.q
theorem CallGP {f:Nat} {args:List V} {v gv:V} {b:Bool} (h:CallIs E (.fn f) args (⟨L,none⟩::R) (.ret v) (⟨L,none⟩::R)) (hl:lowL 0 args=false) (ht:tames args=true) :
  CallG E f args gv b d (.s bs) ks F (⟨L,none⟩::R) Q=(isDef gv=true∧Wk E (.s bs) ks (putO F d (gsel gv b v)) (⟨L,none⟩::R) Q):=by
 unfold CallG
 rw [CallP h hl ht,isDef_iff]
 show (_∧(_→Wk E (.s bs) ks (putO F d v) (⟨L,none⟩::R) Q)∧_)=_
 by_cases hb:gv=.bool b
 ·subst hb; simp [gsel_self]
 ·simp [hb,gsel_other hb]
theorem CallvP {f:Nat} {xs cs:List V} {o:Out} {S':St} (h:CallIs E (.fn f) (xs++cs) S o S') (hs:(xs++cs).map strip=xs++cs) (ht:tames (xs++cs)=true):Callv E (.func (.func f) cs) xs d cn ks F S Q=backW F d (fun F S=>Wk E cn ks F S Q) (fun v S=>RunE E ks (.pan v) F S Q) o S':=by
 simp only [Callv,callvK,hs,ht,true_and]
 exact h.q
theorem InvP {t f:Nat} {v:V} {m:String} {xs:List V} {o:Out} {S':St} (hm:E.meth t m=some f) (h:CallIs E (.fn f) (v::xs) S o S') (hs:(v::xs).map strip=v::xs) (ht:tames (v::xs)=true):Inv' E (.ifc t v) m xs d cn ks F S Q=backW F d (fun F S=>Wk E cn ks F S Q) (fun v S=>RunE E ks (.pan v) F S Q) o S':=by
 simp only [Inv',invK,hm,hs]
 apply propext
 constructor
 ·rintro ⟨f',h1,h2,h3⟩
  cases h1
  rwa [h.q] at h3
 ·intro h3
  exact ⟨f,rfl,ht,by rw [h.q]; exact h3⟩
@[go_sem] theorem backW_ret {ok:Fr→St→Prop} {pan:V→St→Prop} {v:V}:backW F d ok pan (.ret v) (⟨L,none⟩::R)=ok (putO F d v) (⟨L,none⟩::R):=_root_.id rfl
@[go_sem] theorem backW_pan {ok:Fr→St→Prop} {pan:V→St→Prop} {v:V}:backW F d ok pan (.pan v) (⟨L,none⟩::R)=pan v (⟨L,none⟩::R):=_root_.id rfl
def FinR (o:Option V) (R:St) (Q:Out→St→Prop):Prop:=∃ v,o=some v∧low R.length v=true∧Q (.ret v) R
def Fin (res:List Res) (Q:Out→St→Prop):Ex→Fr→St→Prop
 | .pan v,_,_::R=>low R.length v=true∧Q (.pan v) R
 | .ret,F,T::R=>FinR (results F (T::R) res) R Q
 | .nrm,F,T::R=>FinR (results F (T::R) res) R Q
 | _,_,_=>False
variable {P:Out→St→Prop} {T:Lev}
@[go_sem] theorem Fin_pan {res:List Res} {v:V}:Fin res P (.pan v) F (T::R)=(low R.length v=true∧P (.pan v) R):=_root_.id rfl
@[go_sem] theorem Fin_ret {res:List Res}:Fin res P .ret F (T::R)=FinR (results F (T::R) res) R P:=_root_.id rfl
@[go_sem] theorem Fin_nrm {res:List Res}:Fin res P .nrm F (T::R)=FinR (results F (T::R) res) R P:=_root_.id rfl
@[go_sem] theorem FinR_some {v:V}:FinR (some v) R P=(low R.length v=true∧P (.ret v) R):=by simp [FinR]
@[go_sem] theorem results_nil:results F S []=some (.tup []):=_root_.id rfl
@[go_sem] theorem results_one {r:Res}:results F S [r]=resOf F S r:=_root_.id rfl
def consO (v:Option V) (vs:Option (List V)):Option (List V):=v.bind fun v=>vs.map (strip v::·)
@[go_sem] theorem consO_some {v:V} {vs:List V}:consO (some v) (some vs)=some (strip v::vs):=_root_.id rfl
def tupO (vs:Option (List V)):Option V:=vs.map .tup
@[go_sem] theorem tupO_some {vs:List V}:tupO (some vs)=some (.tup vs):=_root_.id rfl
@[go_sem] theorem results_more {r q:Res} {rs:List Res}:results F S (r::q::rs)=tupO (resAll F S (r::q::rs)):=_root_.id rfl
@[go_sem] theorem resAll_nil:resAll F S []=some []:=_root_.id rfl
@[go_sem] theorem resAll_cons {r:Res} {rs:List Res}:resAll F S (r::rs)=consO (resOf F S r) (resAll F S rs):=_root_.id rfl
@[go_sem] theorem resOf_t {t:Nat}:resOf F S (.t t)=some (F t):=_root_.id rfl
def ldP (S:St) (n:Nat) (g:Bool) (v:V):Option V:=match v with | .ptr l i o=>ldO S n g (.ptr l i o) | _=>none
@[go_sem] theorem resOf_c {t n:Nat} {g:Bool}:resOf F S (.c t n g)=ldP S n g (F t):=by
 simp only [resOf,ldP]
 cases F t<;>rfl
@[go_sem] theorem ldP_ptr {n l i o:Nat} {g:Bool}:ldP S n g (.ptr l i o)=ldO S n g (.ptr l i o):=_root_.id rfl
theorem EvQ_run {c:ACode} (h:Run E [.c c] F S Q):EvQ E c F S Q:=W_ok (by simpa [Run,RunE] using h)
theorem CallQ.fn {f:Nat} {af:AFunc} {args:List V} (hx:E.ext f=none) (hf:E.fn f=some af) (hn:args.length=af.np) (h:Run E [.c af.body] (args0 args) (⟨[],none⟩::S) (Fin af.res P)):CallQ E (.fn f) args S P:=by
 obtain ⟨⟨e,F,T⟩,⟨K,h1⟩,h2⟩:=EvQ_run h
 simp only at h1 h2
 have key:∀ o R,leave af (some (e,F,T))=some (o,R)→P o R→CallQ E (.fn f) args S P:=by
  intro o R hl hp
  refine ⟨o,R,⟨K+1,fun j hj=>?_⟩,hp⟩
  obtain ⟨j,rfl⟩:∃ m,j=m+1:=⟨j - 1,by omega⟩
  simp only [callN,callBody,hx,hf,hn,if_true,h1 j j (by omega) (by omega),hl]
 unfold Fin at h2
 split at h2
 ·exact key _ _ (by simp [leave,h2.1]) h2.2
 ·obtain ⟨v,hr,hl,hp⟩:=h2
  exact key _ _ (by simp [leave,hr,hl]) hp
 ·obtain ⟨v,hr,hl,hp⟩:=h2
  exact key _ _ (by simp [leave,hr,hl]) hp
 ·exact h2.elim
theorem Sp.fn {f:Nat} {af:AFunc} {args:List V} {v:V} (hx:E.ext f=none) (hf:E.fn f=some af) (hn:args.length=af.np) (ha:lowL 0 args=true) (hv:∀ n,low n v=true)
  (h:∀ S,Run E [.c af.body] (args0 args) (⟨[],none⟩::S) (Fin af.res fun o S'=>o=.ret v∧S'=S)):Sp E f args v:={
 s S:=by
  obtain ⟨o,S',hc,rfl,rfl⟩:=CallQ.fn hx hf hn (h S)
  exact hc
 a:=ha
 l:=hv }
@[go_sem] theorem evO_t {n:Nat}:evO F (.t n)=F n:=_root_.id rfl
@[go_sem] theorem evO_c {v:V}:evO F (.c v)=v:=_root_.id rfl
@[go_sem] theorem put_hit {t:Nat} {v:V}:put F t v t=v:=by simp [put]
@[go_sem] theorem put_miss {t u:Nat} {v:V} (h:u≠t):put F t v u=F u:=by simp [put,h]
@[go_sem] theorem putO_some {t:Nat} {v:V}:putO F (some t) v=put F t v:=_root_.id rfl
@[go_sem] theorem putO_none {v:V}:putO F none v=F:=_root_.id rfl
@[go_sem] theorem args0_zero {a:V} {as:List V}:args0 (a::as) 0=a:=_root_.id rfl
@[go_sem] theorem args0_succ {a:V} {as:List V} {n:Nat}:args0 (a::as) (n+1)=args0 as n:=_root_.id rfl
attribute [go_sem] ne_eq not_false_eq_true and_true true_and and_self List.map_cons List.map_nil Option.map_some Option.map_none Option.getD_some Option.isSome_some List.length_map Bool.and_true Bool.true_and
def nk (b:Bool):SK:=if b then .nil else .shut
@[go_sem] theorem strip_bool {b:Bool}:strip (.bool b)=.bool b:=_root_.id rfl
@[go_sem] theorem cp_bool {b:Bool}:cp (.bool b)=some (.bool b):=_root_.id rfl
@[go_sem] theorem tame_bool {b:Bool}:tame (.bool b)=true:=_root_.id rfl
@[go_sem] theorem strip_int {k:IntKind} {n:Int}:strip (.int k n)=.int k n:=_root_.id rfl
@[go_sem] theorem cp_int {k:IntKind} {n:Int}:cp (.int k n)=some (.int k n):=_root_.id rfl
@[go_sem] theorem tame_int {k:IntKind} {n:Int}:tame (.int k n)=true:=_root_.id rfl
@[go_sem] theorem strip_str {s:ByteArray}:strip (.str s)=.str s:=_root_.id rfl
@[go_sem] theorem cp_str {s:ByteArray}:cp (.str s)=some (.str s):=_root_.id rfl
@[go_sem] theorem tame_str {s:ByteArray}:tame (.str s)=true:=_root_.id rfl
@[go_sem] theorem strip_ptr {l i o:Nat}:strip (.ptr l i o)=.ptr l i o:=_root_.id rfl
@[go_sem] theorem cp_ptr {l i o:Nat}:cp (.ptr l i o)=some (.ptr l i o):=_root_.id rfl
@[go_sem] theorem tame_ptr {l i o:Nat}:tame (.ptr l i o)=true:=_root_.id rfl
@[go_sem] theorem tame_look {cs:List V}:tame (.look cs)=true:=_root_.id rfl
@[go_sem] theorem strip_nilf :strip (.nilf)=.nilf:=_root_.id rfl
@[go_sem] theorem strip_agg {cs:List V}:strip (.agg cs)=.agg cs:=_root_.id rfl
@[go_sem] theorem tame_agg {cs:List V}:tame (.agg cs)=true:=_root_.id rfl
@[go_sem] theorem strip_tup {cs:List V}:strip (.tup cs)=.tup cs:=_root_.id rfl
@[go_sem] theorem cp_tup {cs:List V}:cp (.tup cs)=some (.tup cs):=_root_.id rfl
@[go_sem] theorem tame_tup {cs:List V}:tame (.tup cs)=true:=_root_.id rfl
@[go_sem] theorem strip_func {f:Fn} {cs:List V}:strip (.func f cs)=.func f cs:=_root_.id rfl
@[go_sem] theorem cp_func {f:Fn} {cs:List V}:cp (.func f cs)=some (.func f cs):=_root_.id rfl
@[go_sem] theorem tame_func {f:Fn} {cs:List V}:tame (.func f cs)=true:=_root_.id rfl
@[go_sem] theorem strip_ifc {t:Nat} {v:V}:strip (.ifc t v)=.ifc t v:=_root_.id rfl
@[go_sem] theorem tame_ifc {t:Nat} {v:V}:tame (.ifc t v)=true:=_root_.id rfl
@[go_sem] theorem nk_true:nk true=.nil:=_root_.id rfl
@[go_sem] theorem nk_false:nk false=.shut:=_root_.id rfl
@[go_sem] theorem isnO_f {b:Bool} {xs:List (List V)}:isnO false (.slice (nk b) xs)=some (.bool b):=by cases b<;>rfl
theorem appO_own {e n b:Nat} {k:SK} {xs ys:List (List V)} (h:allLen n ys=true) (h1:(xs.length+ys.length)*b≤140737488355328) (h2:xs.length+ys.length≤140737488355328):appO e n b (.slice (.own e) xs) (.slice k ys)=some (.slice (.own e) (xs++ys)):=by
 simp only [appO,mayGrow,beq_self_eq_true,h,true_and]
 rw [if_pos ⟨h1,h2⟩]; rfl
theorem appO_nil {e n b:Nat} {k:SK} {y:List V} {ys:List (List V)} (h:allLen n (y::ys)=true) (h1:(y::ys).length*b≤140737488355328) (h2:(y::ys).length≤140737488355328):appO e n b (.slice .nil []) (.slice k (y::ys))=some (.slice (.own e) (y::ys)):=by
 simp only [appO,mayGrow,List.length_nil,beq_self_eq_true,h,true_and,Nat.zero_add]
 rw [if_pos ⟨h1,h2⟩]; rfl
@[go_sem] theorem strip_nil {xs:List (List V)}:strip (.slice .nil xs)=.slice .nil xs:=_root_.id rfl
@[go_sem] theorem strip_shut {xs:List (List V)}:strip (.slice .shut xs)=.slice .shut xs:=_root_.id rfl
@[go_sem] theorem strip_own {e:Nat} {xs:List (List V)}:strip (.slice (.own e) xs)=.slice .shut xs:=_root_.id rfl
@[go_sem] theorem strip_nk {b:Bool} {xs:List (List V)}:strip (.slice (nk b) xs)=.slice (nk b) xs:=by cases b<;>rfl
@[go_sem] theorem cp_nil {xs:List (List V)}:cp (.slice .nil xs)=some (.slice .nil xs):=_root_.id rfl
@[go_sem] theorem cp_shut {xs:List (List V)}:cp (.slice .shut xs)=some (.slice .shut xs):=_root_.id rfl
@[go_sem] theorem cp_nk {b:Bool} {xs:List (List V)}:cp (.slice (nk b) xs)=some (.slice (nk b) xs):=by cases b<;>rfl
@[go_sem] theorem tame_slice {k:SK} {xs:List (List V)}:tame (.slice k xs)=true:=_root_.id rfl
@[go_sem] theorem strip_gsel {gv:V} {b:Bool} {v:V}:strip (gsel gv b v)=gsel gv b (strip v):=by
 unfold gsel; split
 ·split<;>rfl
 ·rfl
@[go_sem] theorem tame_gsel {gv:V} {b:Bool} {v:V} (h:tame v=true):tame (gsel gv b v)=true:=by
 unfold gsel; split
 ·split
  ·exact h
  ·rfl
 ·rfl
def grown (e:Nat) (xs:List (List V)):V:=if xs.isEmpty then .slice .nil [] else .slice (.own e) xs
theorem grown_nil {e:Nat}:grown e []=.slice .nil []:=rfl
@[go_sem] theorem strip_grown {e:Nat} {xs:List (List V)}:strip (grown e xs)=.slice (nk xs.isEmpty) xs:=by
 cases xs<;>rfl
@[go_sem] theorem cp_grown {e:Nat} {xs:List (List V)}:cp (grown e xs)=some (.slice (nk xs.isEmpty) xs):=by
 cases xs<;>rfl
@[go_sem] theorem tame_grown {e:Nat} {xs:List (List V)}:tame (grown e xs)=true:=by cases xs<;>rfl
@[go_sem] theorem low_grown {e n:Nat} {xs:List (List V)}:low n (grown e xs)=true:=by cases xs<;>rfl
theorem appO_grown {e n b:Nat} {k:SK} {xs ys:List (List V)} (h:allLen n ys=true) (h1:(xs.length+ys.length)*b≤140737488355328) (h2:xs.length+ys.length≤140737488355328):appO e n b (grown e xs) (.slice k ys)=some (grown e (xs++ys)):=by
 cases xs with
 | nil =>
  simp only [grown,List.isEmpty_nil,if_true,appO,mayGrow,List.length_nil,beq_self_eq_true,h,true_and]
  rw [if_pos ⟨h1,h2⟩]
  cases ys<;>rfl
 | cons x xs =>
  show (if (e == e)=true∧allLen n ys=true∧((x::xs).length+ys.length)*b≤140737488355328∧(x::xs).length+ys.length≤140737488355328 then some (appV (.own e) e (x::xs) ys) else none)=some (.slice (.own e) (x::xs++ys))
  rw [if_pos ⟨by simp,h,h1,h2⟩]
  rfl
@[go_sem] theorem low_bool {m:Nat} {b:Bool}:low m (.bool b)=true:=by simp [low]
@[go_sem] theorem low_int {m:Nat} {k:IntKind} {n:Int}:low m (.int k n)=true:=by simp [low]
@[go_sem] theorem low_str {m:Nat} {s:ByteArray}:low m (.str s)=true:=by simp [low]
@[go_sem] theorem low_nilp {m:Nat} :low m (.nilp)=true:=by simp [low]
@[go_sem] theorem low_nilf {m:Nat} :low m (.nilf)=true:=by simp [low]
@[go_sem] theorem low_ptr {m l i o:Nat}:low m (.ptr l i o)=decide (l < m):=by simp [low]
@[go_sem] theorem low_agg {m:Nat} {cs:List V}:low m (.agg cs)=lowL m cs:=by simp [low]
@[go_sem] theorem low_tup {m:Nat} {cs:List V}:low m (.tup cs)=lowL m cs:=by simp [low]
@[go_sem] theorem low_ifc {m t:Nat} {v:V}:low m (.ifc t v)=low m v:=by simp [low]
@[go_sem] theorem low_func {m f:Nat} {cs:List V}:low m (.func (.func f) cs)=lowL m cs:=by simp [low]
@[go_sem] theorem low_slice {m:Nat} {k:SK} {xs:List (List V)}:low m (.slice k xs)=true:=by simp [low]
@[go_sem] theorem lowL_nil {m:Nat}:lowL m []=true:=_root_.id rfl
@[go_sem] theorem lowL_cons {m:Nat} {c:V} {cs:List V}:lowL m (c::cs)=(low m c&&lowL m cs):=_root_.id rfl
@[go_sem] theorem tames_nil:tames []=true:=_root_.id rfl
@[go_sem] theorem tames_cons {c:V} {cs:List V}:tames (c::cs)=(tame c&&tames cs):=_root_.id rfl
@[go_sem] theorem cellsOf_agg {cs:List V}:cellsOf (.agg cs)=some (cs.map strip):=_root_.id rfl
@[go_sem] theorem cellsOf_bool {b:Bool}:cellsOf (.bool b)=some [.bool b]:=_root_.id rfl
@[go_sem] theorem cellsOf_int {k:IntKind} {n:Int}:cellsOf (.int k n)=some [.int k n]:=_root_.id rfl
@[go_sem] theorem cellsOf_str {s:ByteArray}:cellsOf (.str s)=some [.str s]:=_root_.id rfl
@[go_sem] theorem cellsOf_ptr {l i o:Nat}:cellsOf (.ptr l i o)=some [.ptr l i o]:=_root_.id rfl
@[go_sem] theorem cellsOf_func {f:Fn} {cs:List V}:cellsOf (.func f cs)=some [.func f cs]:=_root_.id rfl
@[go_sem] theorem cellsOf_slice {k:SK} {xs:List (List V)}:cellsOf (.slice k xs)=some [.slice k xs]:=_root_.id rfl
@[go_sem] theorem pickO_t {x y:V}:pickO (.bool true) x y=cp x:=_root_.id rfl
@[go_sem] theorem pickO_f {x y:V}:pickO (.bool false) x y=cp y:=_root_.id rfl
@[go_sem] theorem pickO_and {c x:Bool}:pickO (.bool c) (gsel (.bool c) true (.bool x)) (.bool false)=some (.bool (c&&x)):=by cases c<;>rfl
@[go_sem] theorem pickO_or {c x:Bool}:pickO (.bool c) (.bool true) (gsel (.bool c) false (.bool x))=some (.bool (c||x)):=by cases c<;>rfl
@[go_sem] theorem ncO_ptr {l i o:Nat}:ncO (.ptr l i o)=some (.ptr l i o):=_root_.id rfl
@[go_sem] theorem lenO_slice {k:SK} {xs:List (List V)}:lenO false (.slice k xs)=some (.int .i64 xs.length):=_root_.id rfl
@[go_sem] theorem lenO_str {s:ByteArray}:lenO true (.str s)=some (.int .i64 s.size):=_root_.id rfl
@[go_sem] theorem un_not {b:Bool}:un .not (.bool b)=some (.bool (!b)):=_root_.id rfl
@[go_sem] theorem bin_add {tk:Nat} {k:IntKind} {a b:Int}:bin .add tk (.int k a) (.int k b)=some (.int k (k.wrap (a+b))):=by simp [bin,arith]
@[go_sem] theorem bin_sub {tk:Nat} {k:IntKind} {a b:Int}:bin .sub tk (.int k a) (.int k b)=some (.int k (k.wrap (a - b))):=by simp [bin,arith]
@[go_sem] theorem bin_mul {tk:Nat} {k:IntKind} {a b:Int}:bin .mul tk (.int k a) (.int k b)=some (.int k (k.wrap (a*b))):=by simp [bin,arith]
theorem bin_quo {tk:Nat} {k:IntKind} {a b:Int} (h:b≠0):bin .quo tk (.int k a) (.int k b)=some (.int k (k.wrap (a.tdiv b))):=by simp [bin,arith,h]
theorem bin_rem {tk:Nat} {k:IntKind} {a b:Int} (h:b≠0):bin .rem tk (.int k a) (.int k b)=some (.int k (a.tmod b)):=by simp [bin,arith,h]
@[go_sem] theorem bin_eql {tk:Nat} {k:IntKind} {a b:Int}:bin .eql tk (.int k a) (.int k b)=some (.bool (decide (a=b))):=by simp [bin,arith]; rfl
@[go_sem] theorem bin_neq {tk:Nat} {k:IntKind} {a b:Int}:bin .neq tk (.int k a) (.int k b)=some (.bool (!decide (a=b))):=by simp [bin,arith]; rfl
@[go_sem] theorem bin_lss {tk:Nat} {k:IntKind} {a b:Int}:bin .lss tk (.int k a) (.int k b)=some (.bool (decide (a < b))):=by simp [bin,arith]
@[go_sem] theorem bin_leq {tk:Nat} {k:IntKind} {a b:Int}:bin .leq tk (.int k a) (.int k b)=some (.bool (decide (a≤b))):=by simp [bin,arith]
@[go_sem] theorem bin_gtr {tk:Nat} {k:IntKind} {a b:Int}:bin .gtr tk (.int k a) (.int k b)=some (.bool (decide (b < a))):=by simp [bin,arith]
@[go_sem] theorem bin_geq {tk:Nat} {k:IntKind} {a b:Int}:bin .geq tk (.int k a) (.int k b)=some (.bool (decide (b≤a))):=by simp [bin,arith]
theorem str_eq {a b:ByteArray}:(a.toList == b.toList)=decide (a=b):=by
 rw [ByteArray.toList_eq,ByteArray.toList_eq]
 by_cases h:a=b
 ·subst h; simp
 ·simp only [h,decide_false,beq_eq_false_iff_ne,ne_eq]
  intro e
  apply h
  cases a; cases b
  simp only [ByteArray.mk.injEq]
  exact Array.ext' e
@[go_sem] theorem bin_eqs {tk:Nat} {a b:ByteArray}:bin .eql tk (.str a) (.str b)=some (.bool (decide (a=b))):=by simp only [bin,str_eq]
theorem wrap64 {n:Int} (h1:-9223372036854775808≤n) (h2:n≤9223372036854775807):IntKind.i64.wrap n=n:=by rw [IntKind.wrap_i64]; omega
theorem wrap_succ {n:Nat} (h:n < 9223372036854775807):IntKind.i64.wrap ((n:Int)+1)=((n+1:Nat):Int):=by rw [wrap64 (by omega) (by omega)]; simp
@[go_sem] theorem faO_ptr {o l i p:Nat}:faO o (.ptr l i p)=some (.ptr l i (p+o)):=_root_.id rfl
@[go_sem] theorem faO_look {o:Nat} {cs:List V} (h:o≤cs.length):faO o (.look cs)=some (.look (cs.drop o)):=by simp [faO,h]
theorem iaO_at {n k:Nat} {K:SK} {kk:IntKind} {xs:List (List V)} {c:List V} (h:xs[k]?=some c) (hn:c.length=n):iaO n (.slice K xs) (.int kk (k:Int))=some (.look c):=by simp [iaO,h,hn]
theorem iaO_map {α:Type} {f:α→List V} {n k:Nat} {K:SK} {kk:IntKind} {xs:List α} {c:α} (h:xs[k]?=some c):iaO n (.slice K (xs.map f)) (.int kk (k:Int))=if (f c).length=n then some (.look (f c)) else none:=by simp [iaO,h]
@[go_sem] theorem iaO_0 {n:Nat} {K:SK} {kk:IntKind} {c:List V} {cs:List (List V)}:iaO n (.slice K (c::cs)) (.int kk 0)=if c.length=n then some (.look c) else none:=by simp [iaO]
@[go_sem] theorem iaO_1 {n:Nat} {K:SK} {kk:IntKind} {c b:List V} {cs:List (List V)}:iaO n (.slice K (b::c::cs)) (.int kk 1)=if c.length=n then some (.look c) else none:=by simp [iaO]
theorem sxO_at {k:Nat} {kk:IntKind} {s:ByteArray} {b:UInt8} (h:s.data.toList[k]?=some b):sxO (.str s) (.int kk (k:Int))=some (.int .u8 b.toNat):=by simp [sxO,h]
theorem sxO_zero {kk:IntKind} {s:ByteArray} {b:UInt8} (h:s.data.toList[0]?=some b):sxO (.str s) (.int kk 0)=some (.int .u8 b.toNat):=by simp only [sxO,Int.le_refl,if_true,Int.toNat_zero,h]
@[go_sem] theorem fnO_ok {f:Nat} {vs:List V} (h:tames vs=true):fnO f vs=some (.func (.func f) (vs.map strip)):=by simp [fnO,h]
@[go_sem] theorem mkiO_agg {t:Nat} {cs:List V}:mkiO t (.agg cs)=some (.ifc t (.agg cs)):=_root_.id rfl
@[go_sem] theorem exO_0 {v:V} {vs:List V}:exO 0 (.tup (v::vs))=cp v:=_root_.id rfl
@[go_sem] theorem exO_1 {v w:V} {vs:List V}:exO 1 (.tup (v::w::vs))=cp w:=_root_.id rfl
@[go_sem] theorem exO_2 {u v w:V} {vs:List V}:exO 2 (.tup (u::v::w::vs))=cp w:=_root_.id rfl
def cutV (cs:List V) (o n:Nat) (g:Bool):Option V:=(cutL cs o n).bind fun c=>ofCells g (c.map strip)
def onBox (c:Option (List V)) (o n:Nat) (g:Bool):Option V:=c.bind fun cs=>cutV cs o n g
@[go_sem] theorem ldO_ptr {n l i o:Nat} {g:Bool}:ldO S n g (.ptr l i o)=onBox (getBox S l i) o n g:=_root_.id rfl
@[go_sem] theorem onBox_some {cs:List V} {o n:Nat} {g:Bool}:onBox (some cs) o n g=cutV cs o n g:=_root_.id rfl
theorem ldO_look {cs:List V} {n:Nat} {g:Bool}:ldO S n g (.look cs)=cutV cs 0 n g:=rfl
attribute [go_sem] ldO_look
@[go_sem] theorem drop_drop {cs:List V} {i j:Nat}:(cs.drop i).drop j=cs.drop (i+j):=by rw [List.drop_drop]
@[go_sem] theorem cutV_drop {cs:List V} {o p n:Nat} {g:Bool} (h:o≤cs.length):cutV (cs.drop o) p n g=cutV cs (o+p) n g:=by
 simp only [cutV,cutL,List.length_drop,List.drop_drop]
 by_cases hn:o+p+n≤cs.length
 ·rw [if_pos hn,if_pos (by omega)]
 ·rw [if_neg hn,if_neg (by omega)]
theorem cutV_all {cs:List V} {n:Nat} (h:cs.length=n):cutV cs 0 n true=some (.agg (cs.map strip)):=by subst h; simp [cutV,cutL,ofCells]
theorem cutV_one {v:V}:cutV [v] 0 1 false=some (strip v):=rfl
attribute [go_sem] cutV_one
theorem setAt_all {z vs:List V} (h:vs.length=z.length):setAt z 0 vs=vs:=by simp [setAt,h]
theorem setAt_at0 {cs vs:List V}:setAt cs 0 vs=vs++cs.drop vs.length:=by simp [setAt]
attribute [go_sem] setAt_at0
@[go_sem] theorem setAt_succ {c:V} {cs vs:List V} {o:Nat}:setAt (c::cs) (o+1) vs=c::setAt cs o vs:=by simp [setAt,Nat.add_right_comm]
def rowsC (c:Option (List V)) (n:Nat) (r:Option (List (List V))):Option (List (List V)):=c.bind fun vs=>if vs.length=n∧lowL 0 vs=true then r.map (vs::·) else none
@[go_sem] theorem rows_nil {n:Nat}:rows F n []=some []:=_root_.id rfl
@[go_sem] theorem rows_cons {n:Nat} {x:Opd} {xs:List Opd}:rows F n (x::xs)=rowsC (cellsOf (strip (evO F x))) n (rows F n xs):=by
 simp only [rows,rowsC]
 cases cellsOf (strip (evO F x))<;>rfl
@[go_sem] theorem rowsC_some {n:Nat} {vs:List V} {r:List (List V)}:rowsC (some vs) n (some r)=if vs.length=n∧lowL 0 vs=true then some (vs::r) else none:=_root_.id rfl
@[go_sem] theorem rowO_some {e n m:Nat} {r:List (List V)}:rowO e n m (some r)=if m*n≤16777216∧0 < n then some (.slice (.own e) r) else none:=_root_.id rfl
def fillC (F:Fr) (cs:List V) (o n:Nat) (c:Option (List V)) (ps:List (Nat×Nat×Opd)):Option (List V):=c.bind fun vs=>if vs.length=n∧o+n≤cs.length then fill F (setAt cs o vs) ps else none
@[go_sem] theorem fill_nil {cs:List V}:fill F cs []=some cs:=_root_.id rfl
@[go_sem] theorem fill_cons {cs:List V} {o n:Nat} {x:Opd} {ps:List (Nat×Nat×Opd)}:fill F cs ((o,n,x)::ps)=fillC F cs o n (cellsOf (strip (evO F x))) ps:=by
 simp only [fill,fillC]
 cases cellsOf (strip (evO F x))<;>rfl
@[go_sem] theorem fillC_some {cs vs:List V} {o n:Nat} {ps:List (Nat×Nat×Opd)}:fillC F cs o n (some vs) ps=if vs.length=n∧o+n≤cs.length then fill F (setAt cs o vs) ps else none:=_root_.id rfl
@[go_sem] theorem getBox_top {i:Nat}:getBox (⟨B,lp⟩::R) R.length i=bget B i:=by simp [getBox,bget]
@[go_sem] theorem setBox_top {i:Nat} {cs:List V}:setBox (⟨B,lp⟩::R) R.length i cs=⟨bset B i cs,lp⟩::R:=by simp [setBox,bset]
theorem getBox_below {l i:Nat} (h:l≠R.length):getBox (T::R) l i=getBox R l i:=by simp [getBox,h]
theorem setBox_below {l i:Nat} {cs:List V} (h:l≠R.length):setBox (T::R) l i cs=T::setBox R l i cs:=by simp [setBox,h]
theorem getBox_lt {l i:Nat} {cs:List V}:∀ {S:St},getBox S l i=some cs→l < S.length
 | [],h=>by cases h
 | L::S,h=>by
  simp only [getBox] at h
  split at h
  ·rename_i hl; simp [hl]
  ·have:=getBox_lt h; simp; omega
@[go_sem] theorem len_setBox {l i:Nat} {v:List V}:∀ {S:St},(setBox S l i v).length=S.length
 | []=>rfl
 | L::S=>by
  simp only [setBox]
  split
  ·simp
  ·simp [len_setBox (S:=S)]
theorem getBox_up {l i:Nat} {cs:List V} (h:getBox R l i=some cs):getBox (T::R) l i=some cs:=by
 have:=getBox_lt h
 rw [getBox_below (by omega)]; exact h
theorem setBox_up {l i:Nat} {cs v:List V} (h:getBox R l i=some cs):setBox (T::R) l i v=T::setBox R l i v:=by
 have:=getBox_lt h
 exact setBox_below (by omega)
@[go_sem] theorem getBox_top_set {i l j:Nat} {v:List V}:getBox (⟨B,lp⟩::setBox R l j v) R.length i=bget B i:=by
 have:=getBox_top (B:=B) (lp:=lp) (R:=setBox R l j v) (i:=i)
 rwa [len_setBox] at this
@[go_sem] theorem setBox_top_set {i l j:Nat} {v cs:List V}:setBox (⟨B,lp⟩::setBox R l j v) R.length i cs=⟨bset B i cs,lp⟩::setBox R l j v:=by
 have:=setBox_top (B:=B) (lp:=lp) (R:=setBox R l j v) (i:=i) (cs:=cs)
 rwa [len_setBox] at this
theorem dz_was {x:Option (List V)} {cs:List V} (h:dz x=some cs):x=some cs:=by
 cases x with
 | none=>cases h
 | some xs =>
  simp only [dz] at h
  cases hb:(Nat.beq xs.length 7&&xs.all isUndef)<;>rw [hb] at h
  ·exact h
  ·cases h
theorem dz_len {cs:List V} (h:cs.length≠7):dz (some cs)=some cs:=by
 have:Nat.beq cs.length 7=false:=by
  cases hb:Nat.beq cs.length 7
  ·rfl
  ·exact absurd (Nat.eq_of_beq_eq_true hb) h
 simp only [dz,this]; rfl
@[go_sem] theorem dz_lowL {cs:List V} (h:lowL 0 cs=true):dz (some cs)=some cs:=by
 cases cs with
 | nil=>rfl
 | cons c cs =>
  simp only [lowL,Bool.and_eq_true] at h
  have h1:=h.1
  have:(c::cs).all isUndef=false:=by cases c<;>first | (simp [isUndef]; done) | (simp [low] at h1; done)
  simp only [dz,this,Bool.and_false]; rfl
@[go_sem] theorem dz_1 {a:V}:dz (some [a])=some [a]:=_root_.id rfl
@[go_sem] theorem dz_8 {a b c d e f g h:V} {cs:List V}:dz (some (a::b::c::d::e::f::g::h::cs))=some (a::b::c::d::e::f::g::h::cs):=dz_len (by simp)
theorem getBox_set {l i:Nat} {cs v:List V} (hv:dz (some v)=some v):∀ {S:St},getBox S l i=some cs→getBox (setBox S l i v) l i=some v
 | [],h=>by cases h
 | L::S,h=>by
  simp only [getBox] at h
  split at h
  ·rename_i hl
   have:=(List.getElem?_eq_some_iff.1 (dz_was h)).1
   simp [setBox,hl,getBox,this,hv]
  ·rename_i hl
   simp only [setBox,if_neg hl,getBox,len_setBox]
   exact getBox_set hv h
theorem setBox_self {l i:Nat} {cs:List V}:∀ {S:St},getBox S l i=some cs→setBox S l i cs=S
 | [],h=>by cases h
 | L::S,h=>by
  simp only [getBox] at h
  split at h
  ·rename_i hl
   have:=List.getElem?_eq_some_iff.1 (dz_was h)
   simp only [setBox,if_pos hl]
   obtain ⟨h1,h2⟩:=this
   rw [← h2,List.set_getElem_self]
  ·rename_i hl
   simp only [setBox,if_neg hl,setBox_self h]
theorem getBox_other {l i l' i':Nat} {v:List V} (hne:¬(l=l'∧i=i')):∀ {S:St},getBox (setBox S l' i' v) l i=getBox S l i
 | []=>rfl
 | L::S=>by
  simp only [setBox,getBox]
  split
  ·rename_i h'
   simp only [getBox]
   split
   ·rename_i hl
    have:i'≠i:=by rintro rfl; exact hne ⟨hl.trans h'.symm,rfl⟩
    simp [List.getElem?_set,this]
   ·rfl
  ·simp only [getBox,len_setBox]
   split
   ·rfl
   ·exact getBox_other hne
@[go_sem] theorem setBox_setBox {l i:Nat} {v w:List V}:∀ {S:St},setBox (setBox S l i v) l i w=setBox S l i w
 | []=>rfl
 | L::S=>by
  simp only [setBox]
  split
  ·rename_i h; simp only [setBox,h,if_true,List.set_set]
  ·rename_i h; simp only [setBox,len_setBox,if_neg h,setBox_setBox (S:=S)]
@[go_sem] theorem blen_nil:blen []=0:=_root_.id rfl
@[go_sem] theorem blen_cons {c:List V}:blen (c::B)=blen B+1:=_root_.id rfl
@[go_sem] theorem blen_app:blen (B++C)=blen B+blen C:=by simp [blen]
theorem badd_var {z:List V}:badd B z=B++[z]:=rfl
@[go_sem] theorem bget_zero {c:List V}:bget (c::B) 0=dz (some c):=_root_.id rfl
@[go_sem] theorem bget_succ {c:List V} {i:Nat}:bget (c::B) (i+1)=bget B i:=_root_.id rfl
@[go_sem] theorem bget_app {i:Nat}:bget (B++C) (blen B+i)=bget C i:=by simp [bget,blen,List.getElem?_append_right]
@[go_sem] theorem bget_app0:bget (B++C) (blen B)=bget C 0:=by simp [bget,blen,List.getElem?_append_right]
@[go_sem] theorem bset_zero {c x:List V}:bset (c::B) 0 x=x::B:=_root_.id rfl
@[go_sem] theorem bset_succ {c x:List V} {i:Nat}:bset (c::B) (i+1) x=c::bset B i x:=_root_.id rfl
@[go_sem] theorem bset_app {i:Nat} {x:List V}:bset (B++C) (blen B+i) x=B++bset C i x:=by simp [bset,blen]
@[go_sem] theorem bset_app0 {x:List V}:bset (B++C) (blen B) x=B++bset C 0 x:=by simp [bset,blen]
end
attribute [go_sem] decide_true decide_false Bool.not_true Bool.not_false List.append_assoc List.cons_append List.nil_append Int.natCast_inj Int.ofNat_lt Int.ofNat_le Int.natCast_eq_zero Int.cast_ofNat_Int Int.natCast_nonneg Int.natCast_one Int.natCast_zero Bool.false_and Bool.and_false Bool.or_false Bool.false_or Bool.or_true Bool.true_or true_implies implies_true forall_const Out.ret.injEq V.bool.injEq V.int.injEq false_implies List.cons.injEq Lev.mk.injEq exists_eq' exists_eq false_and and_false Bool.not_eq_true' Bool.not_eq_false' Bool.and_eq_true decide_eq_true_eq Bool.false_eq_true eq_self List.length_cons List.length_nil List.drop_succ_cons List.drop_zero List.drop_nil List.append_nil Nat.zero_add Nat.add_zero Nat.le_refl Nat.zero_lt_succ Nat.not_lt_zero setAt_all badd_var
theorem sx {p:Prop} (h:p:=by simp only [go_sem,simprocAttr]):p:=h
theorem sy {p:Prop} (h:p:=by simp only [go_sem,simprocAttr, implies_true]):p:=h
end Wp
end AM
end Go.Proofs.Ytimfbnojmdnlnaa
