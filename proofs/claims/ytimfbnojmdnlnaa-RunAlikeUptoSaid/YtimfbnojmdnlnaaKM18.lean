/- Levels below; loops over functions; calls that hand out boxes; What is taken with its right to grow, out of a box. -/
import Derived.Test.YtimfbnojmdnlnaaKWpC
set_option linter.all false
section
namespace Go.Proofs.Ytimfbnojmdnlnaa
namespace AM
namespace Wp
def getLev:St→Nat→Option Lev
 | [],_=>none
 | L::S,l=>if l=S.length then some L else getLev S l
def putLev:St→Nat→Lev→St
 | [],_,_=>[]
 | L::S,l,x=>if l=S.length then x::S else L::putLev S l x
section
variable {E:Env} {ks:List KI} {F:Fr} {S R:St} {Q:Ex→Fr→St→Prop} {bs:List Blk} {d:Option Nat}
def RngEnd (E:Env) (ks:List KI) (F:Fr) (Q:Ex→Fr→St→Prop):Out→St→Prop
 | .ret _,⟨L,some p⟩::R=>(match p.jump with
  | none=>Run E ks F (⟨L,none⟩::R) Q
  | some .ret=>RunE E ks .ret F (⟨L,none⟩::R) Q
  | some (.exit id)=>RunE E ks (.exit id) F (⟨L,none⟩::R) Q
  | _=>False)
 | _,_=>False
def RoundEnd (l:Nat) (P:Out→St→Prop):Ex→Fr→St→Prop
 | e,_,_::R=>∃ F ps asg body L,getLev R l=some ⟨L,some ⟨F,ps,asg,body,some .nrm⟩⟩∧(match e with
   | .nrm=>P (.ret (.bool true)) (putLev R l ⟨L,some ⟨F,ps,asg,body,none⟩⟩)
   | .ret=>P (.ret (.bool false)) (putLev R l ⟨L,some ⟨F,ps,asg,body,some .ret⟩⟩)
   | .exit id=>P (.ret (.bool false)) (putLev R l ⟨L,some ⟨F,ps,asg,body,some (.exit id)⟩⟩)
   | .pan _=>False)
 | _,_,[]=>False
theorem Call_esc {f:Nat} {args:List V} {v:V} {L:List (List V)} {B:List (List V)} {lp:Option Lp} (h:CallIs E (.fn f) args [] (.esc v L) []) (hl:lowL 0 args=true) (hv:bare v=true) (hL:barest L=true) :
  Call E f args d (.s bs) ks F (⟨B,lp⟩::R) Q=Wk E (.s bs) ks (putO F d (reloc 0 R.length (blen B) v)) (⟨B++L.map (relocL 0 R.length (blen B)),lp⟩::R) Q:=by
 simp only [Call,callK,hl,if_true]
 rw [h.q]
 simp only [hv,hL,true_and]
 rfl
end
end Wp
end AM
end Go.Proofs.Ytimfbnojmdnlnaa
end
section
namespace Go.Proofs.Ytimfbnojmdnlnaa
namespace AM
namespace Wp
section
variable {E:Env} {ks:List KI} {F:Fr} {S R:St} {Q:Ex→Fr→St→Prop} {os all:List AOper} {bs:List Blk} {d:Option Nat} {cn:Cn}
def isOwn:V→Bool
 | .slice (.own _) _=>true
 | _=>false
@[go_sem] theorem isOwn_nil {xs:List (List V)}:isOwn (.slice .nil xs)=false:=_root_.id rfl
def cellO (c:Option (List V)) (o:Nat):Option V:=c.bind fun cs=>cs[o]?
@[go_sem] theorem cellO_some {cs:List V} {o:Nat}:cellO (some cs) o=cs[o]?:=_root_.id rfl
attribute [go_sem] List.getElem?_cons_zero List.getElem?_cons_succ Option.getD_some List.set_cons_zero List.set_cons_succ
def TakC (E:Env) (c:Option V) (l i o n:Nat) (g:Bool) (d:Option Nat) (cn:Cn) (ks:List KI) (F:Fr) (S:St) (Q:Ex→Fr→St→Prop):Prop:=cellO (getBox S l i) o=c→Tak E (.ptr l i o) n g d cn ks F S Q
@[go_sem] theorem Tak_ptr {l i o n:Nat} {g:Bool}:Tak E (.ptr l i o) n g d cn ks F S Q=TakC E (cellO (getBox S l i) o) l i o n g d cn ks F S Q:=propext ⟨fun h _=>h,fun h=>h rfl⟩
@[go_sem] theorem TakC_own {l i o e:Nat} {xs:List (List V)} (h:cellO (getBox S l i) o=some (.slice (.own e) xs)):TakC E (some (.slice (.own e) xs)) l i o 1 false d cn ks F S Q=Wk E cn ks (putO F d (.slice (.own e) xs)) (setBox S l i (((getBox S l i).getD []).set o (.slice .shut xs))) Q:=by
 simp only [TakC,h,true_implies]
 simp only [cellO] at h
 simp [Tak,ldtK,h]
@[go_sem] theorem TakC_val {l i o n:Nat} {g:Bool} {v:V} (h:cellO (getBox S l i) o=some v) (hv:isOwn v=false):TakC E (some v) l i o n g d cn ks F S Q=WkV E (ldO S n g (.ptr l i o)) d cn ks F S Q:=by
 simp only [TakC,h,true_implies]
 simp only [cellO] at h
 simp only [Tak,ldtK,h]
 cases v with
 | slice k xs=>cases k with
  | own e=>cases hv
  | _=>rfl
 | _=>rfl
def TakF (E:Env) (x:V) (n:Nat) (g:Bool) (d:Option Nat) (cn:Cn) (ks:List KI) (F:Fr) (S:St) (Q:Ex→Fr→St→Prop):Prop:=Wf.ldtF x n g d F S fun F=>Wk E cn ks F S Q
@[go_sem] theorem WkF_ldt {n:Nat} {g:Bool} {x:Opd}:Wk E (.f all (⟨d, .ld true n g x,none⟩::os) bs) ks F S Q=TakF E (evO F x) n g d (.f all os bs) ks F S Q:=_root_.id rfl
def TakFC (E:Env) (c:Option V) (l i o n:Nat) (g:Bool) (d:Option Nat) (cn:Cn) (ks:List KI) (F:Fr) (S:St) (Q:Ex→Fr→St→Prop):Prop:=cellO (getBox S l i) o=c→TakF E (.ptr l i o) n g d cn ks F S Q
@[go_sem] theorem TakF_ptr {l i o n:Nat} {g:Bool}:TakF E (.ptr l i o) n g d cn ks F S Q=TakFC E (cellO (getBox S l i) o) l i o n g d cn ks F S Q:=propext ⟨fun h _=>h,fun h=>h rfl⟩
@[go_sem] theorem TakFC_val {l i o n:Nat} {g:Bool} {v:V} (h:cellO (getBox S l i) o=some v) (hv:isOwn v=false):TakFC E (some v) l i o n g d cn ks F S Q=WkV E (ldO S n g (.ptr l i o)) d cn ks F S Q:=by
 simp only [TakFC,h,true_implies]
 simp only [cellO] at h
 simp only [TakF,Wf.ldtF,h]
 cases v with
 | slice k xs=>cases k with
  | own e=>cases hv
  | _=>rfl
 | _=>rfl
def unm (l i p:Nat) (F:Fr):Fr:=fun t=>unmir l i p (F t)
def MirK (E:Env) (c:Option (List V)) (l i p e:Nat) (xs:List (List V)) (d:Nat) (os:List AOper) (bs:List Blk) (ks:List KI) (F:Fr) (S:St) (Q:Ex→Fr→St→Prop):Prop :=
 match c with
 | some cs=>WkS E os bs ks (put (unm l i p F) d (.slice (.own e) xs)) (setBox S l i (cs.set p (.slice .shut xs))) Q
 | none=>WkS E os bs ks F S Q
def CallvG (E:Env) (x:V) (xs:List V) (gv:V) (b:Bool) (d:Option Nat) (cn:Cn) (ks:List KI) (F:Fr) (S:St) (Q:Ex→Fr→St→Prop):Prop :=
 gv≠.undef∧(gv=.bool b→Callv E x xs d cn ks F S Q)∧(gv≠.bool b→Wk E cn ks (putO F d (.tup [])) S Q)
def FG (gv:V) (b:Bool) (A B:Prop):Prop:=gv≠.undef∧(gv=.bool b→A)∧(gv≠.bool b→B)
@[go_sem] theorem grown_cons {e:Nat} {x:List V} {xs:List (List V)}:grown e (x::xs)=.slice (.own e) (x::xs):=_root_.id rfl
@[go_sem] theorem grown_nil' {e:Nat}:grown e []=.slice .nil []:=_root_.id rfl
@[go_sem] theorem cutV_step {c:V} {cs:List V} {o n:Nat} {g:Bool}:cutV (c::cs) (o+1) n g=cutV cs o n g:=by
 simp only [cutV,cutL,List.length_cons,List.drop_succ_cons]
 congr 1
 by_cases h:o+n≤cs.length
 ·rw [if_pos h,if_pos (by omega)]
 ·rw [if_neg h,if_neg (by omega)]
@[go_sem] theorem cutV_here {c:V} {cs:List V}:cutV (c::cs) 0 1 false=some (strip c):=by simp [cutV,cutL,ofCells]
theorem app1 {e n b:Nat} {k:SK} {xs:List (List V)} {y:List V} (h:y.length=n) (h1:xs.length≤1000000000) (h2:b≤1000):appO e n b (.slice (.own e) xs) (.slice k [y])=some (.slice (.own e) (xs++[y])):=by
 refine appO_own (by simp [allLen,h]) ?_ (by simp; omega)
 simp only [List.length_singleton]
 calc (xs.length+1)*b≤(1000000000+1)*1000:=Nat.mul_le_mul (by omega) h2
  _≤_:=by decide
@[go_sem] theorem app0 {e n b:Nat} {k:SK} {y:List V} (h:y.length=n) (h2:b≤1000):appO e n b (.slice .nil []) (.slice k [y])=some (.slice (.own e) [y]):=by
 refine appO_nil (by simp [allLen,h]) ?_ (by simp)
 simp only [List.length_singleton]; omega
end
end Wp
end AM
end Go.Proofs.Ytimfbnojmdnlnaa
end
