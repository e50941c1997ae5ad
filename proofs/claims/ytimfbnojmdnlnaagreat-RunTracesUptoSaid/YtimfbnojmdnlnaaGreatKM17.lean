/- What the check of statements calls; Statements, as the program checks them; Bodies, as the program checks them; Check, whole; Statements, as the reference checks them; The reference's check, whole; both checks agree. -/
import Derived.Test.YtimfbnojmdnlnaaGreatKM16
set_option linter.all false
set_option maxRecDepth 100000
section
namespace Go.Proofs.YtimfbnojmdnlnaaGreat
namespace AM
namespace Wp
def idxI {α:Type} (f:α→Bool) (l:List α):Int:=if l.any f then (l.findIdx f:Int) else -1
theorem idxI_pos {α:Type} {f:α→Bool} {l:List α}:decide (0≤idxI f l)=l.any f:=by
 unfold idxI
 cases l.any f<;>simp
theorem idxI_none {α:Type} {f:α→Bool} {l:List α} (h:∀ (m:Nat) x,l[m]?=some x→f x=false):idxI f l=-1:=by
 unfold idxI
 rw [if_neg]
 intro h2
 obtain ⟨x,hx,hf⟩:=List.any_eq_true.1 h2
 obtain ⟨m,hm⟩:=List.mem_iff_getElem?.1 hx
 rw [h m x hm] at hf; cases hf
theorem idxI_at {α:Type} {f:α→Bool} {l:List α} {k:Nat} {x:α} (h:∀ (m:Nat) x,m < k→l[m]?=some x→f x=false) (hk:l[k]?=some x) (hf:f x=true):idxI f l=k:=by
 unfold idxI
 have hlt:=(List.getElem?_eq_some_iff.1 hk).1
 have hx:=(List.getElem?_eq_some_iff.1 hk).2
 rw [if_pos (List.any_eq_true.2 ⟨x,List.mem_of_getElem? hk,hf⟩)]
 congr 1
 rw [List.findIdx_eq hlt]
 refine ⟨by rw [hx]; exact hf,fun j hj=>h j _ hj (List.getElem?_eq_getElem _)⟩
theorem index_ok (b:Bool) (l:List ByteArray) (s:ByteArray) (hl:l.length≤LIM):Sp theEnv 172 [.slice (nk b) (l.map encS), .str s] (.int .i64 (idxI (fun t=>decide (s=t)) l)):=by
 refine Sp.fn rfl rfl rfl sx sy fun S=>?_; simp only [a172,c172,go_sem,simprocAttr]
 refine Run_range l.length [0,1] [] (fun k vs S'=>S'=_∧∀ m x,m < k→l[m]?=some x→decide (s=x)=false) hl sx sx rfl rfl rfl rfl sx ⟨rfl,by simp⟩ ?_ ?_
 ·rintro k F _ hk ⟨rfl,hno⟩ hi hkept
  simp only [go_sem,simprocAttr] at hkept
  obtain ⟨x,hx⟩:∃ x,l[k]?=some x:=⟨l[k],List.getElem?_eq_getElem hk⟩
  simp only [go_sem,simprocAttr,hkept,hi,iaO_map hx,Run_if]
  split
  ·rename_i h
   simp only [go_sem,simprocAttr,idxI_at hno hx (by simp [h])]
  ·rename_i h
   intro m y hm hy
   rcases Nat.lt_succ_iff_lt_or_eq.1 hm with h1 | h1
   ·have:=hno m y h1 hy; simpa using this
   ·subst h1; rw [hx] at hy; cases hy; simpa using h
 ·rintro F _ ⟨rfl,hno⟩ hkept
  simp only [go_sem,simprocAttr,idxI_none fun m x h=>hno m x (List.getElem?_eq_some_iff.1 h).1 h]
theorem contains_sl (b:Bool) (l:List ByteArray) (s:ByteArray) (hl:l.length≤LIM):Sp theEnv 143 [.slice (nk b) (l.map encS), .str s] (.bool (l.any fun t=>decide (s=t))):=by
 refine Sp.fn rfl rfl rfl sx sy fun S=>?_; simp only [a143,c143,go_sem,simprocAttr]
 simp only [go_sem,simprocAttr,(index_ok b l s hl).call,idxI_pos]
theorem is_ref (b:Bool) (l:List ByteArray) (s:ByteArray) (hl:l.length≤LIM):Sp theEnv 104 [.slice (nk b) (l.map encS), .str s] (.bool (l.any fun t=>decide (s=t))):=by
 refine Sp.fn rfl rfl rfl sx sy fun S=>?_; simp only [a104,c104,go_sem,simprocAttr]
 refine Run_all l (fun t=>!decide (s=t)) (fun S'=>S'=_) [1,7] hl sx sx rfl rfl rfl sx rfl ?_ ?_
 ·rintro k F _ x hx hm rfl hi hkept hall
  simp only [go_sem,simprocAttr] at hkept
  simp only [go_sem,simprocAttr,hkept,hi,iaO_map hx,Run_if]
  rw [← List.not_any_eq_all_not] at hall
  grind
 ·rintro F _ hall rfl hkept
  rw [← List.not_any_eq_all_not] at hall
  simp only [go_sem,simprocAttr]
  grind
def isNew (names:List ByteArray) (s:ByteArray):Bool:=!(names.any fun t=>decide (s=t))
theorem named_ok (b:Bool) (names:List ByteArray) (s:ByteArray) (hl:names.length≤LIM):Sp theEnv 112 [.str s, .slice (nk b) (names.map encS)] (.bool (vName s&&isNew names s)):=by
 refine Sp.fn rfl rfl rfl sx sy fun S=>?_; simp only [a112,c112,go_sem,simprocAttr]
 simp only [go_sem,simprocAttr,(name_set s).call,(contains_sl b names s hl).callG,isNew]
def cloneV (b:Bool) (xs:List (List V)):V:=if b then .slice .nil [] else .slice (.own 9) xs
@[go_sem] theorem tame_cloneV {b:Bool} {xs:List (List V)}:tame (cloneV b xs)=true:=by cases b<;>rfl
@[go_sem] theorem tame_scloneV {b:Bool} {xs:List (List V)}:tame (strip (cloneV b xs))=true:=by cases b<;>rfl
theorem app_clone {b:Bool} {l:List ByteArray} {s:ByteArray} {k:SK} (hl:l.length≤1000000000) (hb:b=true→l=[]):appO 9 1 16 (cloneV b (l.map encS)) (.slice k [[.str s]])=some (.slice (.own 9) ((l++[s]).map encS)):=by
 cases b with
 | true=>rw [hb rfl]; exact appO_nil rfl (by simp) (by simp)
 | false =>
  rw [List.map_append]
  exact appO_own rfl (by simp; omega) (by simp; omega)
theorem clone_ok (b:Bool) (l:List ByteArray) (hl:l.length≤1000000000) (hb:b=true→l=[]):Sp theEnv 81 [.slice (nk b) (l.map encS)] (cloneV b (l.map encS)):=by
 refine Sp.fn rfl rfl rfl sx (by cases b<;>simp only [cloneV,go_sem,simprocAttr,implies_true]) fun S=>?_
 simp only [a81,c81,go_sem,simprocAttr]
 cases b with
 | true=>simp only [go_sem,simprocAttr,cloneV]
 | false=>simp only [go_sem,simprocAttr,appO_own (e:=9) (b:=16) (k:=.shut) (xs:=[]) (lens_S l) (by simp; omega) (by simp; omega),cloneV]
theorem arr_named {a:Arr} {s:Stm} {S:St} {l i:Nat} (hb:getBox S l i=some (encStm s)):CallIs theEnv (.fn 211) [.agg (encArr a), .ptr l i 0] S (.ret (.bool (decide (a.name=s.name)))) S:=by
 refine CallIs.fn rfl rfl rfl ?_
 have g1:=fun T=>getBox_up (T:=T) hb
 simp only [a211,c211,go_sem,simprocAttr,g1]
theorem arr_index {b:Bool} {ars:List Arr} {s:Stm} {S:St} {l i:Nat} (hl:ars.length≤LIM) (hb:getBox S l i=some (encStm s)):CallIs theEnv (.fn 216) [.slice (nk b) (ars.map encArr), .func (.func 211) [.ptr l i 0]] S (.ret (.int .i64 (idxI (fun a=>decide (a.name=s.name)) ars))) S:=by
 refine CallIs.fn rfl rfl rfl ?_
 have g1:=fun T=>getBox_up (T:=T) hb
 simp only [a216,c216,go_sem,simprocAttr]
 refine Run_range ars.length [0,1] [] (fun k vs S'=>S'=_∧∀ m x,m < k→ars[m]?=some x→decide (x.name=s.name)=false) hl sx sx rfl rfl rfl rfl sx ⟨rfl,by simp⟩ ?_ ?_
 ·rintro k F _ hk ⟨rfl,hno⟩ hi hkept
  simp only [go_sem,simprocAttr] at hkept
  obtain ⟨x,hx⟩:∃ x,ars[k]?=some x:=⟨ars[k],List.getElem?_eq_getElem hk⟩
  have hc:=fun T=>arr_named (a:=x) (g1 T)
  simp only [go_sem,simprocAttr,hkept,hi,iaO_map hx,CallvP (xs:=[.agg (encArr x)]) (cs:=[.ptr l i 0]) (hc _) rfl rfl,Run_if]
  split
  ·rename_i h
   simp only [go_sem,simprocAttr,idxI_at hno hx (by simp [h])]
  ·rename_i h
   intro m y hm hy
   rcases Nat.lt_succ_iff_lt_or_eq.1 hm with h1 | h1
   ·have:=hno m y h1 hy; simpa using this
   ·subst h1; rw [hx] at hy; cases hy; simpa using h
 ·rintro F _ ⟨rfl,hno⟩ hkept
  simp only [go_sem,simprocAttr,idxI_none fun m x h=>hno m x (List.getElem?_eq_some_iff.1 h).1 h]
theorem arr_contains {b:Bool} {ars:List Arr} {s:Stm} {S:St} {l i:Nat} (hl:ars.length≤LIM) (hb:getBox S l i=some (encStm s)):CallIs theEnv (.fn 210) [.slice (nk b) (ars.map encArr), .func (.func 211) [.ptr l i 0]] S (.ret (.bool (ars.any fun a=>decide (a.name=s.name)))) S:=by
 refine CallIs.fn rfl rfl rfl ?_
 have hc:=fun T=>arr_index (b:=b) hl (getBox_up (T:=T) hb)
 simp only [a210,c210,go_sem,simprocAttr,CallP (hc _),idxI_pos]
end Wp
end AM
end Go.Proofs.YtimfbnojmdnlnaaGreat
end
section
namespace Go.Proofs.YtimfbnojmdnlnaaGreat
namespace AM
namespace Wp
def lowOne (b:Bound):Bool :=
 match b.parts with
 | [q]=>(match q.rows with | [r]=>decide (r.div=1) | _=>false)
 | _=>false
def arrNew (p:Prg) (s:ByteArray):Bool:=!(p.arrays.any fun a=>decide (a.name=s))
def cFor (p:Prg) (names:List ByteArray) (s:Stm):Bool :=
 (vName s.name&&isNew names s.name&&arrNew p s.name)&&vBound names.length s.low&&vBound names.length s.high&&(decide (1≤s.step)&&decide (s.step≤64)&&decide (0≤s.mark)&&decide (s.mark≤2)) &&
  (decide (s.step=1)||lowOne s.low)&&(zSet s.test&&zRef s.target&&zExp s.value&&decide ((s.els.length:Int)=0))
def cIf (names:List ByteArray) (s:Stm):Bool:=(zLoop s&&zRef s.target&&zExp s.value)&&(vSet s.test&&decide (s.test.dim=(names.length:Int)))
def cAsg (p:Prg) (names:List ByteArray) (s:Stm):Bool:=(zLoop s&&zSet s.test&&decide ((s.body.length:Int)=0)&&decide ((s.els.length:Int)=0))&&vCell p names.length s.target&&(chkNode p names.length s.value 0).1
def deep (p:Prg) (l:List Stm) (names:List ByteArray):Bool:=decide ((l.length:Int)=0)||decide ((names.length:Int) - (p.params.length:Int)≤10)
mutual
def chkStm (p:Prg):Stm→List ByteArray→Int→Bool×Int
 | s@⟨kind,name,_,_,_,_,_,_,_,_,body,_,els⟩,names,st =>
  if kind=1 then (if cFor p names s=true then (if deep p body (names++[name])=true then chkList p body (names++[name]) st else (false,st)) else (false,st))
  else if kind=2 then (if cIf names s=true then (if deep p body names=true then
    (if (chkList p body names st).1=true then (if deep p els names=true then chkList p els names (chkList p body names st).2 else (false,(chkList p body names st).2)) else (false,(chkList p body names st).2)) else (false,st)) else (false,st))
  else if kind=3 then (cAsg p names s,st)
  else (false,st)
def chkList (p:Prg):List Stm→List ByteArray→Int→Bool×Int
 | [],_,st=>(true,st)
 | s::l,names,st=>if st+1≤256 then (if (chkStm p s names (st+1)).1=true then chkList p l names (chkStm p s names (st+1)).2 else (false,(chkStm p s names (st+1)).2)) else (false,st+1)
end
def chkBody (p:Prg) (l:List Stm) (names:List ByteArray) (st:Int):Bool×Int:=if deep p l names=true then chkList p l names st else (false,st)
section
variable {p:Prg} {s:Stm} {names:List ByteArray} {st:Int} {xs ys:List Stm}
theorem chkStm_for (h:s.kind=1):chkStm p s names st=if cFor p names s=true then chkBody p s.body (names++[s.name]) st else (false,st):=by
 cases s; simp only at h; rw [chkStm]; simp only [h,if_true,chkBody]
theorem chkStm_if (h:s.kind=2):chkStm p s names st=if cIf names s=true then (if (chkBody p s.body names st).1=true then chkBody p s.els names (chkBody p s.body names st).2 else (false,(chkBody p s.body names st).2)) else (false,st):=by
 cases s; simp only at h; rw [chkStm]
 have h1:¬ (2:Int)=1:=by decide
 simp only [h,h1,if_true,if_false,chkBody]
 split
 ·split<;>simp
 ·rfl
theorem chkStm_asg (h:s.kind=3):chkStm p s names st=(cAsg p names s,st):=by
 cases s; simp only at h; rw [chkStm]
 have h1:¬ (3:Int)=1:=by decide
 have h2:¬ (3:Int)=2:=by decide
 simp only [h,h1,h2,if_true,if_false]
theorem chkStm_bad (h1:s.kind≠1) (h2:s.kind≠2) (h3:s.kind≠3):chkStm p s names st=(false,st):=by
 cases s; simp only at h1 h2 h3; rw [chkStm]
 simp only [h1,h2,h3,if_false]
theorem chkList_cons:chkList p (s::xs) names st=if st+1≤256 then (if (chkStm p s names (st+1)).1=true then chkList p xs names (chkStm p s names (st+1)).2 else (false,(chkStm p s names (st+1)).2)) else (false,st+1):=by rw [chkList]
theorem chkList_app:∀ {xs:List Stm} {st:Int},(chkList p xs names st).1=true→chkList p (xs++ys) names st=chkList p ys names (chkList p xs names st).2
 | [],st,h=>by rw [chkList]; rfl
 | s::xs,st,h=>by
  rw [List.cons_append,chkList_cons,chkList_cons]
  rw [chkList_cons] at h
  split
  ·rename_i h1
   rw [if_pos h1] at h
   split
   ·rename_i h2
    rw [if_pos h2] at h
    exact chkList_app h
   ·rename_i h2
    rw [if_neg h2] at h; cases h
  ·rename_i h1
   rw [if_neg h1] at h; cases h
end
theorem chk_bound {p:Prg}:∀ (s:Stm) (names:List ByteArray) (st:Int),(chkStm p s names st).1=true→st≤(chkStm p s names st).2∧(st≤256→(chkStm p s names st).2≤256):=by
 have list:∀ (l:List Stm),(∀ s∈l, ∀ (names:List ByteArray) (st:Int),(chkStm p s names st).1=true→st≤(chkStm p s names st).2∧(st≤256→(chkStm p s names st).2≤256)) →
   ∀ (names:List ByteArray) (st:Int),(chkList p l names st).1=true→st≤(chkList p l names st).2∧(st≤256→(chkList p l names st).2≤256):=by
  intro l
  induction l with
  | nil=>intro _ names st _; rw [chkList]; simp
  | cons s l ih =>
   intro h names st hr
   rw [chkList_cons] at hr ⊢
   split at hr
   ·rename_i h1
    rw [if_pos h1]
    split at hr
    ·rename_i h2
     rw [if_pos h2]
     have a:=h s List.mem_cons_self names (st+1) h2
     have b:=ih (fun s hs=>h s (List.mem_cons_of_mem _ hs)) names _ hr
     omega
    ·cases hr
   ·cases hr
 have body:∀ (l:List Stm),(∀ s∈l, ∀ (names:List ByteArray) (st:Int),(chkStm p s names st).1=true→st≤(chkStm p s names st).2∧(st≤256→(chkStm p s names st).2≤256)) →
   ∀ (names:List ByteArray) (st:Int),(chkBody p l names st).1=true→st≤(chkBody p l names st).2∧(st≤256→(chkBody p l names st).2≤256):=by
  intro l h names st hr
  unfold chkBody at hr ⊢
  split at hr
  ·rename_i h1; rw [if_pos h1]; exact list l h names st hr
  ·cases hr
 refine Stm.ind fun s ihb ihe names st hr=>?_
 by_cases h1:s.kind=1
 ·rw [chkStm_for h1] at hr ⊢
  split at hr
  ·rename_i h2; rw [if_pos h2]; exact body _ ihb _ _ hr
  ·cases hr
 by_cases h2:s.kind=2
 ·rw [chkStm_if h2] at hr ⊢
  split at hr
  ·rename_i h3
   rw [if_pos h3]
   split at hr
   ·rename_i h4
    rw [if_pos h4]
    have a:=body _ ihb _ _ h4
    have b:=body _ ihe _ _ hr
    omega
   ·cases hr
  ·cases hr
 by_cases h3:s.kind=3
 ·rw [chkStm_asg h3]; simp
 ·rw [chkStm_bad h1 h2 h3] at hr; cases hr
theorem list_bound {p:Prg} {names:List ByteArray}:∀ {l:List Stm} {st:Int},(chkList p l names st).1=true→st≤(chkList p l names st).2∧(st≤256→(chkList p l names st).2≤256)
 | [],st,_=>by rw [chkList]; simp
 | s::l,st,hr=>by
  rw [chkList_cons] at hr ⊢
  split at hr
  ·rename_i h1
   rw [if_pos h1]
   split at hr
   ·rename_i h2
    rw [if_pos h2]
    have a:=chk_bound s names (st+1) h2
    have b:=list_bound hr
    omega
   ·cases hr
  ·cases hr
theorem body_bound {p:Prg} {names:List ByteArray} {l:List Stm} {st:Int} (hr:(chkBody p l names st).1=true):st≤(chkBody p l names st).2∧(st≤256→(chkBody p l names st).2≤256):=by
 unfold chkBody at hr ⊢
 split at hr
 ·rename_i h1; rw [if_pos h1]; exact list_bound hr
 ·cases hr
theorem kind_for (s:Stm) (h:s.kind=1):Sp theEnv 114 [.agg (encStm s)] (.ifc 222 (.agg (encStm s))):=by
 refine Sp.fn rfl rfl rfl sx sy fun S=>?_; simp only [a114,c114,go_sem,simprocAttr]
 simp only [go_sem,simprocAttr,h]
theorem kind_if (s:Stm) (h:s.kind=2):Sp theEnv 114 [.agg (encStm s)] (.ifc 223 (.agg (encStm s))):=by
 refine Sp.fn rfl rfl rfl sx sy fun S=>?_; simp only [a114,c114,go_sem,simprocAttr]
 simp only [go_sem,simprocAttr,h]
theorem kind_asg (s:Stm) (h:s.kind=3):Sp theEnv 114 [.agg (encStm s)] (.ifc 224 (.agg (encStm s))):=by
 refine Sp.fn rfl rfl rfl sx sy fun S=>?_; simp only [a114,c114,go_sem,simprocAttr]
 simp only [go_sem,simprocAttr,h]
theorem kind_bad (s:Stm) (h1:s.kind≠1) (h2:s.kind≠2) (h3:s.kind≠3):SpC theEnv 114 [.agg (encStm s)] false:=by
 refine SpC.fn rfl rfl rfl sx fun S=>?_
 simp only [a114,c114,go_sem,simprocAttr,h1,h2,h3,stop]
theorem asg_ok {p:Prg} {st:Int} {s:Stm} {nb:Bool} {names:List ByteArray} {S:St} {l ci:Nat} (hs:OkStm s) (hb:getBox S l ci=some (encChk p st)) :
  CallIs theEnv (.fn 220) [.agg (encStm s), .ptr l ci 0, .slice (nk nb) (names.map encS)] S (outIf (cAsg p names s)) S:=by
 refine CallIs.fn rfl rfl rfl ?_
 have g1:=fun T=>getBox_up (T:=T) hb
 have hlt:=getBox_lt hb
 have hcell:=fun T=>cell_ok (n:=(names.length:Int)) hs.target' (g1 T)
 have hnode:=fun B=>node_ok (p:=p) (st:=st) (n:=(names.length:Int)) (l:=l) (ci:=ci) (l':=S.length) (ni:=2) (fun h=>by omega) s.value hs.value' 0 (⟨[encStm s,encStm s,B],none⟩::S) (by omega) (by omega) (g1 _)
 simp only [a220,c220,go_sem,simprocAttr,(blank_ok _).call,(unset_ok _).callG,(need_ok _).call,CallP (hcell _)]
 split
 ·split
  ·have hn:=hnode [.int .i64 0] sx
   simp only [go_sem,simprocAttr] at hn
   rw [CallP hn sx sx]
   simp only [go_sem,simprocAttr,cAsg]
   grind
  ·simp only [go_sem,simprocAttr,cAsg]
   grind
 ·simp only [go_sem,simprocAttr,cAsg]
  grind
theorem if_ok {p:Prg} {st:Int} {s:Stm} {nb:Bool} {names:List ByteArray} {S:St} {l ci:Nat} (hs:OkStm s) (hb:getBox S l ci=some (encChk p st))
  (h1:∀ T,CallIs theEnv (.fn 80) [.ptr l ci 0, .slice (nk s.bn) (s.body.map encStm), .slice (nk nb) (names.map encS)] (T::S) (outIf (chkBody p s.body names st).1) (T::setBox S l ci (encChk p (chkBody p s.body names st).2)))
  (h2:(chkBody p s.body names st).1=true→∀ T,CallIs theEnv (.fn 80) [.ptr l ci 0, .slice (nk s.en) (s.els.map encStm), .slice (nk nb) (names.map encS)] (T::setBox S l ci (encChk p (chkBody p s.body names st).2)) (outIf (chkBody p s.els names (chkBody p s.body names st).2).1) (T::setBox S l ci (encChk p (chkBody p s.els names (chkBody p s.body names st).2).2))) (hk:s.kind=2) :
  CallIs theEnv (.fn 218) [.agg (encStm s), .ptr l ci 0, .slice (nk nb) (names.map encS)] S (outIf (chkStm p s names st).1) (setBox S l ci (encChk p (chkStm p s names st).2)):=by
 refine CallIs.fn rfl rfl rfl ?_
 have g1:=fun T=>getBox_up (T:=T) hb
 have hself:=setBox_self hb
 rw [chkStm_if hk]
 cases hB:(chkBody p s.body names st).1 with
 | false =>
  have h1':=h1
  simp only [hB] at h1'
  simp only [a218,c218,go_sem,simprocAttr,(blank_ok _).call,(plainRef_ok _).callG,(plainExp_ok _).callG,(set_valid _ hs.test').call,(need_ok _).call,CallP (h1' _)]
  have hc:cIf names s=((zLoop s&&zRef s.target&&zExp s.value)&&(vSet s.test&&decide (s.test.dim=(names.length:Int)))):=rfl
  grind
 | true =>
 have h1':=h1
 simp only [hB] at h1'
 simp only [a218,c218,go_sem,simprocAttr,(blank_ok _).call,(plainRef_ok _).callG,(plainExp_ok _).callG,(set_valid _ hs.test').call,(need_ok _).call,CallP (h1' _),CallP (h2 hB _)]
 have hc:cIf names s=((zLoop s&&zRef s.target&&zExp s.value)&&(vSet s.test&&decide (s.test.dim=(names.length:Int)))):=rfl
 grind
theorem for_ok {p:Prg} {st:Int} {s:Stm} {nb:Bool} {names:List ByteArray} {S:St} {l ci:Nat} (hp:OkPrg p) (hs:OkStm s) (hb:getBox S l ci=some (encChk p st)) (hn:names.length≤1000000) (hnb:nb=true→names=[])
  (h1:∀ T,CallIs theEnv (.fn 80) [.ptr l ci 0, .slice (nk s.bn) (s.body.map encStm), .slice .shut ((names++[s.name]).map encS)] (T::S) (outIf (chkBody p s.body (names++[s.name]) st).1) (T::setBox S l ci (encChk p (chkBody p s.body (names++[s.name]) st).2))) (hk:s.kind=1) :
  CallIs theEnv (.fn 209) [.agg (encStm s), .ptr l ci 0, .slice (nk nb) (names.map encS)] S (outIf (chkStm p s names st).1) (setBox S l ci (encChk p (chkStm p s names st).2)):=by
 refine CallIs.fn rfl rfl rfl ?_
 have g1:=fun T=>getBox_up (T:=T) hb
 have hlt:=getBox_lt hb
 have hself:=setBox_self hb
 have hac:=fun (B:List (List V)) (h:getBox (⟨B,none⟩::S) S.length 1=some (encStm s))=>arr_contains (b:=p.an) hp.al h
 have hnl:names.length≤LIM:=Nat.le_trans hn (by decide)
 have hbl:=bound_ok s.low (names.length:Int) hs.low'
 have hbh:=bound_ok s.high (names.length:Int) hs.high'
 simp only [a209,c209,go_sem,simprocAttr,(named_ok nb names s.name hnl).call,CallGP (hac [encStm s,encStm s] sx) sx sx,g1,(need_ok _).call,hbl.call,hbh.call,(unset_ok _).call,(plainRef_ok _).callG,(plainExp_ok _).callG]
 rw [chkStm_for hk]
 have hc:cFor p names s=((vName s.name&&isNew names s.name&&arrNew p s.name)&&vBound names.length s.low&&vBound names.length s.high&&(decide (1≤s.step)&&decide (s.step≤64)&&decide (0≤s.mark)&&decide (s.mark≤2)) &&
  (decide (s.step=1)||lowOne s.low)&&(zSet s.test&&zRef s.target&&zExp s.value&&decide ((s.els.length:Int)=0))):=rfl
 unfold arrNew at hc
 split
 ·split
  ·split
   ·split
    ·have hlow:lowOne s.low=match s.low.parts with | [q]=>(match q.rows with | [r]=>decide (r.div=1) | _=>false) | _=>false:=rfl
     by_cases hst:s.step=1
     ·simp only [go_sem,simprocAttr,hst,(unset_ok _).call,(plainRef_ok _).callG,(plainExp_ok _).callG,(need_ok _).call,(clone_ok nb names (by omega) hnb).call,app_clone (by omega) hnb,CallP (h1 _)]
      grind
     ·by_cases hL:∃ q,s.low.parts=[q]
      ·obtain ⟨q,hq⟩:=hL
       by_cases hR:∃ r,q.rows=[r]
       ·obtain ⟨r,hr⟩:=hR
        rw [hq] at hlow
        simp only [hr] at hlow
        simp only [go_sem,simprocAttr,hst,hq,hr,(unset_ok _).call,(plainRef_ok _).callG,(plainExp_ok _).callG,(need_ok _).call,(clone_ok nb names (by omega) hnb).call,app_clone (by omega) hnb,CallP (h1 _)]
        grind
       ·have hr1:¬ (q.rows.length:Int)=1:=fun h=>hR (by
         match hx:q.rows,h with
         | [r],_=>exact ⟨r,rfl⟩)
        have hlow':lowOne s.low=false:=by
         rw [hlow,hq]; simp only
         split
         ·rename_i r hr; exact absurd ⟨r,hr⟩ hR
         ·rfl
        simp only [go_sem,simprocAttr,hst,hq,hr1,(need_ok _).call]
        grind
      ·have hl1:¬ (s.low.parts.length:Int)=1:=fun h=>hL (by
        match hx:s.low.parts,h with
        | [r],_=>exact ⟨r,rfl⟩)
       have hlow':lowOne s.low=false:=by
        rw [hlow]
        split
        ·rename_i r hr; exact absurd ⟨r,hr⟩ hL
        ·rfl
       simp only [go_sem,simprocAttr,hst,hl1,(need_ok _).call]
       grind
    ·grind
   ·grind
  ·grind
 ·grind
end Wp
end AM
end Go.Proofs.YtimfbnojmdnlnaaGreat
end
section
namespace Go.Proofs.YtimfbnojmdnlnaaGreat
namespace AM
namespace Wp
def StmSpec (p:Prg) (l ci:Nat) (s:Stm):Prop:=∀ (names:List ByteArray) (nb:Bool) (st:Int) (S:St),(names.length:Int) - p.params.length≤10→(nb=true→names=[])→getBox S l ci=some (encChk p st)→0≤st→st≤256 →
 (s.kind=1→CallIs theEnv (.fn 209) [.agg (encStm s), .ptr l ci 0, .slice (nk nb) (names.map encS)] S (outIf (chkStm p s names st).1) (setBox S l ci (encChk p (chkStm p s names st).2))) ∧
 (s.kind=2→CallIs theEnv (.fn 218) [.agg (encStm s), .ptr l ci 0, .slice (nk nb) (names.map encS)] S (outIf (chkStm p s names st).1) (setBox S l ci (encChk p (chkStm p s names st).2))) ∧
 (s.kind=3→CallIs theEnv (.fn 220) [.agg (encStm s), .ptr l ci 0, .slice (nk nb) (names.map encS)] S (outIf (chkStm p s names st).1) (setBox S l ci (encChk p (chkStm p s names st).2)))
def BodySpec (p:Prg) (l ci:Nat) (ss:List Stm):Prop:=∀ (names:List ByteArray) (nb bn:Bool) (st:Int) (S:St),(names.length:Int) - p.params.length≤11→(nb=true→names=[])→getBox S l ci=some (encChk p st)→0≤st→st≤256 →
 CallIs theEnv (.fn 80) [.ptr l ci 0, .slice (nk bn) (ss.map encStm), .slice (nk nb) (names.map encS)] S (outIf (chkBody p ss names st).1) (setBox S l ci (encChk p (chkBody p ss names st).2))
theorem m_for : theEnv.meth 222 "headland/lang.check" = some 209 := by simp [theEnv,theMeth]
theorem m_test : theEnv.meth 223 "headland/lang.check" = some 218 := by simp [theEnv,theMeth]
theorem m_assign : theEnv.meth 224 "headland/lang.check" = some 220 := by simp [theEnv,theMeth]
theorem body_ok {p:Prg} {l ci:Nat} (hp:OkPrg p) (hpp:p.params.length≤1000) {ss:List Stm} (hl:ss.length≤LIM) (hs:∀ s∈ss,StmSpec p l ci s):BodySpec p l ci ss:=by
 intro names nb bn st S hn hnb hb h0 h256
 refine CallIs.fn rfl rfl rfl ?_
 have g1:=fun T=>getBox_up (T:=T) hb
 have g3:∀ v,dz (some v)=some v→getBox (setBox S l ci v) l ci=some v:=fun v hv=>getBox_set hv hb
 have g5:=fun T v hv=>getBox_up (T:=T) (g3 v hv)
 have g7:∀ T v w,setBox (T::setBox S l ci v) l ci w=T::setBox S l ci w:=fun T v w=>by rw [setBox_below (by rw [len_setBox]; have:=getBox_lt hb; omega),setBox_setBox]
 have hself:=setBox_self hb
 have hw:IntKind.i64.wrap ((names.length:Int) - (p.params.length:Int))=(names.length:Int) - (p.params.length:Int):=wrap64 (by omega) (by omega)
 simp only [a80,c80,go_sem,simprocAttr,g1,hw,(need_ok _).call]
 have hdeep:deep p ss names=(decide (ss.length=0)||decide ((names.length:Int) - (p.params.length:Int)≤10)):=by simp [deep]
 unfold chkBody
 rw [← hdeep]
 split
 ·rename_i hd
  refine Run_range ss.length [0,2,24] [] (fun k vs S'=>∃ B st',S'=⟨B,none⟩::setBox S l ci (encChk p st')∧chkList p (ss.take k) names st=(true,st')∧0≤st'∧st'≤256) hl sx sx rfl rfl rfl rfl sx ⟨_,st,by rw [hself],by rw [List.take_zero,chkList],h0,h256⟩ ?_ ?_
  ·rintro k F _ hk ⟨B,st',rfl,hc,h0',h256'⟩ hi hkept
   simp only [go_sem,simprocAttr] at hkept
   obtain ⟨s,hsk⟩:∃ s,ss[k]?=some s:=⟨ss[k],List.getElem?_eq_getElem hk⟩
   have hm:=List.mem_of_getElem? hsk
   have hw2:IntKind.i64.wrap (st'+1)=st'+1:=wrap64 (by omega) (by omega)
   have hn10:(names.length:Int) - p.params.length≤10:=by
    rw [hdeep] at hd
    have:ss.length≠0:=by omega
    simpa [this] using hd
   have hall:chkList p ss names st=chkList p (s::ss.drop (k+1)) names st':=by
    have:ss=ss.take k++(s::ss.drop (k+1)):=by
     have h1:=(List.getElem?_eq_some_iff.1 hsk).2
     rw [← h1,List.getElem_cons_drop,List.take_append_drop]
    conv=>lhs; rw [this]
    rw [chkList_app (by rw [hc]),hc]
   simp only [go_sem,simprocAttr,hkept,hi,iaO_map hsk,g5,g7,hw2,(need_ok _).call]
   have htake:chkList p (ss.take (k+1)) names st=chkList p [s] names st':=by
    rw [take_snoc hsk,chkList_app (by rw [hc]),hc]
   rw [hall,chkList_cons]
   rw [chkList_cons] at htake
   split
   ·rename_i hle
    rw [if_pos hle] at htake
    have hsp:=hs s hm names nb (st'+1) (⟨B++[encStm s],none⟩::setBox S l ci (encChk p (st'+1))) hn10 hnb (g5 _ _ rfl) (by omega) hle
    simp only [g7] at hsp
    have hk3 : (∃ t f,Sp theEnv 114 [.agg (encStm s)] (.ifc t (.agg (encStm s))) ∧ theEnv.meth t "headland/lang.check" = some f ∧ CallIs theEnv (.fn f) [.agg (encStm s), .ptr l ci 0, .slice (nk nb) (names.map encS)] (⟨B ++ [encStm s],none⟩ :: setBox S l ci (encChk p (st' + 1))) (outIf (chkStm p s names (st' + 1)).1) (⟨B ++ [encStm s],none⟩ :: setBox S l ci (encChk p (chkStm p s names (st' + 1)).2))) ∨
      (SpC theEnv 114 [.agg (encStm s)] false∧chkStm p s names (st'+1)=(false,st'+1)):=by
     by_cases h1:s.kind=1
     ·exact .inl ⟨_,_,kind_for s h1,m_for,hsp.1 h1⟩
     by_cases h2:s.kind=2
     ·exact .inl ⟨_,_,kind_if s h2,m_test,hsp.2.1 h2⟩
     by_cases h3:s.kind=3
     ·exact .inl ⟨_,_,kind_asg s h3,m_assign,hsp.2.2 h3⟩
     exact .inr ⟨kind_bad s h1 h2 h3,chkStm_bad h1 h2 h3⟩
    rcases hk3 with ⟨t,f,hsk1,hmt,hcall⟩ | ⟨hbad,hst⟩
    ·simp only [go_sem,simprocAttr,hsk1.call,hkept,InvP (xs:=[.ptr l ci 0, .slice (nk nb) (names.map encS)]) hmt hcall sx sx]
     split
     ·rename_i hr
      rw [if_pos hr,chkList] at htake
      have hbd:=chk_bound s names (st'+1) hr
      exact ⟨_,_,⟨rfl,rfl⟩,htake,by omega,hbd.2 hle⟩
     ·rename_i hr
      exact ⟨rfl,rfl⟩
    ·simp only [go_sem,simprocAttr,hbad.call,hst]
   ·simp only [go_sem,simprocAttr]
  ·rintro F _ ⟨B,st',rfl,hc,_⟩ hkept
   rw [List.take_length] at hc
   simp only [go_sem,simprocAttr,hc,if_true,hd]
 ·simp only [go_sem,simprocAttr,hself]
theorem stm_ok {p:Prg} {l ci:Nat} (hp:OkPrg p) (hpp:p.params.length≤1000):∀ s,OkStm s→StmSpec p l ci s:=by
 refine Stm.ind fun s ihb ihe hs=>?_
 have hb:=body_ok hp hpp hs.bn' fun t ht=>ihb t ht (hs.body' t ht)
 have he:=body_ok hp hpp hs.en' fun t ht=>ihe t ht (hs.els' t ht)
 intro names nb st S hn hnb hg h0 h256
 have g1:=fun T=>getBox_up (T:=T) hg
 have g2:=fun T v=>setBox_up (T:=T) (v:=v) hg
 have g3:∀ v,dz (some v)=some v→getBox (setBox S l ci v) l ci=some v:=fun v hv=>getBox_set hv hg
 have g5:=fun T v hv=>getBox_up (T:=T) (g3 v hv)
 have g7:∀ T v w,setBox (T::setBox S l ci v) l ci w=T::setBox S l ci w:=fun T v w=>by rw [setBox_below (by rw [len_setBox]; have:=getBox_lt hg; omega),setBox_setBox]
 refine ⟨fun hk=>?_,fun hk=>?_,fun hk=>?_⟩
 ·refine for_ok hp hs hg (by omega) hnb (fun T=>?_) hk
  have:=hb (names++[s.name]) false s.bn st (T::S) (by simp; omega) (by simp) (g1 T) h0 h256
  rw [g2] at this
  exact this
 ·refine if_ok hs hg (fun T=>?_) (fun hB T=>?_) hk
  ·have:=hb names nb s.bn st (T::S) (by omega) hnb (g1 T) h0 h256
   rw [g2] at this
   exact this
  ·have hbd:=body_bound hB
   have:=he names nb s.en (chkBody p s.body names st).2 (T::setBox S l ci (encChk p (chkBody p s.body names st).2)) (by omega) hnb (g5 T _ rfl) (by omega) (hbd.2 h256)
   rw [g7] at this
   exact this
 ·have:=asg_ok (nb:=nb) (names:=names) hs hg
  rw [chkStm_asg hk]
  simp only [setBox_self hg]
  exact this
end Wp
end AM
end Go.Proofs.YtimfbnojmdnlnaaGreat
end
section
namespace Go.Proofs.YtimfbnojmdnlnaaGreat
namespace AM
namespace Wp
def hPar:List ByteArray→List ByteArray→Bool
 | _,[]=>true
 | acc,s::l=>vName s&&isNew acc s&&hPar (acc++[s]) l
def hArr (n:Int):List ByteArray→List Arr→Bool
 | _,[]=>true
 | acc,a::l=>(vName a.name&&isNew acc a.name&&decide ((a.sizes.length:Int)≤3))&&a.sizes.all (vOverL n)&&hArr n (acc++[a.name]) l
def vHead (p:Prg):Bool:=(decide ((p.params.length:Int)≤2)&&decide ((p.arrays.length:Int)≤8))&&hPar [] p.params&&hArr p.params.length p.params p.arrays
theorem hPar_app:∀ {xs acc ys:List ByteArray},hPar acc (xs++ys)=(hPar acc xs&&hPar (acc++xs) ys)
 | [],acc,ys=>by simp [hPar]
 | x::xs,acc,ys=>by
  simp only [List.cons_append,hPar,hPar_app (xs:=xs),Bool.and_assoc,List.append_assoc]
  rfl
theorem hArr_app {n:Int}:∀ {xs ys:List Arr} {acc:List ByteArray},hArr n acc (xs++ys)=(hArr n acc xs&&hArr n (acc++xs.map (·.name)) ys)
 | [],ys,acc=>by simp [hArr]
 | x::xs,ys,acc=>by
  simp only [List.cons_append,hArr,hArr_app (xs:=xs),Bool.and_assoc,List.append_assoc,List.map_cons]
  rfl
theorem cut_at {α:Type} {l:List α} {k:Nat} {x:α} (h:l[k]?=some x):l=l.take k++(x::l.drop (k+1)):=by
 have h1:=(List.getElem?_eq_some_iff.1 h).2
 rw [← h1,List.getElem_cons_drop,List.take_append_drop]
theorem cat_snoc {l:List ByteArray} {s:ByteArray}:l.map encS++[[.str s]]=(l++[s]).map encS:=by simp [encS]
theorem le_lim {n:Nat} (h:n≤1000000):n≤LIM:=Nat.le_trans h (by decide)
theorem head_ok {p:Prg} {st:Int} {S:St} {l ci:Nat} (hp:OkPrg p) (hb:getBox S l ci=some (encChk p st)):CallIs theEnv (.fn 79) [.ptr l ci 0] S (outIf (vHead p)) S:=by
 refine CallIs.fn rfl rfl rfl ?_
 have g1:=fun T=>getBox_up (T:=T) hb
 simp only [a79,c79,go_sem,simprocAttr,g1,(need_ok _).call]
 split
 ·rename_i hlen
  refine Run_range p.params.length [0,30] [2] (fun k vs S'=>vs=[grown 9 ((p.params.take k).map encS)]∧S'=⟨[],none⟩::S∧hPar [] (p.params.take k)=true) hp.pl sx sx rfl rfl rfl rfl sx ⟨by simp only [go_sem,simprocAttr,List.take_zero,grown_nil],rfl,rfl⟩ ?_ ?_
  ·rintro k F _ hk ⟨hv,rfl,hok⟩ hi hkept
   simp only [go_sem,simprocAttr] at hkept hv
   obtain ⟨s,hsk⟩:∃ s,p.params[k]?=some s:=⟨p.params[k],List.getElem?_eq_getElem hk⟩
   have hkl:(p.params.take k).length=k:=by simp; omega
   have happ:=appO_grown (e:=9) (n:=1) (b:=16) (k:=.own 9) (xs:=(p.params.take k).map encS) (ys:=[[.str s]]) rfl (by simp; omega) (by simp; omega)
   simp only [go_sem,simprocAttr,hkept,hi,hv,iaO_map hsk,(named_ok _ (p.params.take k) s (le_lim (by omega))).call,(need_ok _).call,happ,cat_snoc,take_snoc hsk,hPar_app,hok]
   have hfail:(vName s&&isNew (p.params.take k) s)=false→vHead p=false:=fun h=>by
    have:hPar [] p.params=false:=by
     rw [cut_at hsk,hPar_app,hok,Bool.true_and,List.nil_append,hPar]
     rw [h]; rfl
    simp only [vHead,this,Bool.and_false,Bool.false_and]
   simp only [hPar,Bool.and_true]
   grind
  ·rintro F _ ⟨hv,rfl,hok⟩ hkept
   simp only [go_sem,simprocAttr] at hkept hv
   rw [List.take_length] at hok hv
   simp only [go_sem,simprocAttr,hkept,hv,g1]
   refine Run_range p.arrays.length [0,49] [2] (fun k vs S'=>vs=[grown 9 ((p.params++(p.arrays.take k).map (·.name)).map encS)]∧(∃ B,S'=⟨B,none⟩::S)∧hArr p.params.length p.params (p.arrays.take k)=true) hp.al sx sx rfl rfl rfl rfl (by simp only [go_sem,simprocAttr,hkept]) ⟨by simp only [go_sem,simprocAttr,List.take_zero,hv],⟨_,rfl⟩,rfl⟩ ?_ ?_
   ·rintro k F' _ hk ⟨hv2,⟨B,rfl⟩,hok2⟩ hi2 hkept2
    simp only [go_sem,simprocAttr,hkept] at hkept2 hv2
    obtain ⟨a,hak⟩:∃ a,p.arrays[k]?=some a:=⟨p.arrays[k],List.getElem?_eq_getElem hk⟩
    have ham:=List.mem_of_getElem? hak
    have hao:=hp.as a ham
    have hkl:(p.arrays.take k).length=k:=by simp; omega
    have hkl2:(p.params++(p.arrays.take k).map (·.name)).length≤10:=by simp; omega
    have happ:=appO_grown (e:=9) (n:=1) (b:=16) (k:=.own 9) (xs:=(p.params++(p.arrays.take k).map (·.name)).map encS) (ys:=[[.str a.name]]) rfl (by rw [List.length_map]; simp only [List.length_singleton]; omega) (by rw [List.length_map]; simp only [List.length_singleton]; omega)
    simp only [go_sem,simprocAttr,hkept2,hi2,hv2,iaO_map hak,(named_ok _ (p.params++(p.arrays.take k).map (·.name)) a.name (le_lim (by omega))).call,(need_ok _).call,happ,cat_snoc]
    have hname:∀ b:Bool,((vName a.name&&isNew (p.params++(p.arrays.take k).map (·.name)) a.name&&decide ((a.sizes.length:Int)≤3))&&b)=false→a.sizes.all (vOverL p.params.length)=b→vHead p=false:=fun b h hb=>by
     have:hArr p.params.length p.params p.arrays=false:=by
      rw [cut_at hak,hArr_app,hok2,Bool.true_and,hArr,hb,h]; rfl
     simp only [vHead,this,Bool.and_false]
    split
    ·rename_i hn
     refine Run_all a.sizes (vOverL p.params.length) (fun S'=>∃ B,S'=⟨B,none⟩::S) [0,2,49,51,72] hao.l (by simp only [go_sem,simprocAttr,hkept2,hi2]) (by simp only [go_sem,simprocAttr,hkept2,hi2]) rfl rfl rfl (by simp only [go_sem,simprocAttr,hkept2,hi2]) ⟨_,rfl⟩ ?_ ?_
     ·rintro k F2 _ x hx hm ⟨B,rfl⟩ hi3 hkept3 hall
      simp only [go_sem,simprocAttr,hkept2,hi2] at hkept3 hall
      simp only [go_sem,simprocAttr,hkept3,hi3,iaO_map hx,g1,(over_ok x _ (hao.s x hm)).call,(need_ok _).call]
      split
      ·assumption
      ·rename_i hx2
       intro _ _
       exact hname false (Bool.and_false _) (hall (by simpa using hx2))
     ·rintro F2 _ hall ⟨B2,rfl⟩ hkept3
      simp only [go_sem,simprocAttr,hkept2] at hkept3
      simp only [go_sem,simprocAttr,hkept3]
      rw [take_snoc hak]
      refine ⟨by rw [List.map_append (l₂:=[a])]; rfl,?_⟩
      rw [hArr_app,hok2,Bool.true_and,hArr,hArr,hall]
      simp only [hn.1.1,hn.1.2,hn.2,decide_true,Bool.and_true]
    ·rename_i hn
     intro _
     refine hname _ ?_ rfl
     have:(vName a.name&&isNew (p.params++(p.arrays.take k).map (·.name)) a.name&&decide ((a.sizes.length:Int)≤3))=false:=by
      rw [← Bool.not_eq_true]
      simpa only [Bool.and_eq_true,decide_eq_true_eq] using hn
     rw [this,Bool.false_and]
   ·rintro F' _ ⟨hv2,⟨B,rfl⟩,hok2⟩ hkept2
    rw [List.take_length] at hok2
    simp only [go_sem,simprocAttr,vHead,hok,hok2]
    exact hlen
 ·simp only [vHead]
  grind
def flat:ACode→Bool
 | .seq a b=>flat a&&flat b
 | .cond _ a b=>flat a&&flat b
 | .blk _ a=>flat a
 | .loop _=>false
 | .rng ..=>false
 | _=>true
def depth:ACode→Nat
 | .seq a b=>max (depth a) (depth b)+1
 | .cond _ a b=>max (depth a) (depth b)+1
 | .blk _ a=>depth a+1
 | _=>1
theorem codeN_flat {meth:Nat→String→Option Nat} {cE:CE}:∀ {c:ACode} {k k':Nat} {F:Fr} {S:St},flat c=true→depth c≤k→depth c≤k'→codeN meth cE k c F S=codeN meth cE k' c F S:=by
 intro c
 induction c with
 | nop=>intro k k' F S _ h h'; obtain ⟨k,rfl⟩:∃ m,k=m+1:=⟨k - 1,by simp only [depth] at h; omega⟩; obtain ⟨k',rfl⟩:∃ m,k'=m+1:=⟨k' - 1,by simp only [depth] at h'; omega⟩; rfl
 | reg bs=>intro k k' F S _ h h'; obtain ⟨k,rfl⟩:∃ m,k=m+1:=⟨k - 1,by simp only [depth] at h; omega⟩; obtain ⟨k',rfl⟩:∃ m,k'=m+1:=⟨k' - 1,by simp only [depth] at h'; omega⟩; rfl
 | exit id=>intro k k' F S _ h h'; obtain ⟨k,rfl⟩:∃ m,k=m+1:=⟨k - 1,by simp only [depth] at h; omega⟩; obtain ⟨k',rfl⟩:∃ m,k'=m+1:=⟨k' - 1,by simp only [depth] at h'; omega⟩; rfl
 | ret=>intro k k' F S _ h h'; obtain ⟨k,rfl⟩:∃ m,k=m+1:=⟨k - 1,by simp only [depth] at h; omega⟩; obtain ⟨k',rfl⟩:∃ m,k'=m+1:=⟨k' - 1,by simp only [depth] at h'; omega⟩; rfl
 | seq a b iha ihb =>
  intro k k' F S hf h h'
  simp only [flat,Bool.and_eq_true] at hf
  simp only [depth] at h h'
  obtain ⟨k,rfl⟩:∃ m,k=m+1:=⟨k - 1,by omega⟩
  obtain ⟨k',rfl⟩:∃ m,k'=m+1:=⟨k' - 1,by omega⟩
  simp only [codeN]
  rw [iha hf.1 (show depth a≤k by omega) (show depth a≤k' by omega)]
  split
  ·exact ihb hf.2 (by omega) (by omega)
  ·rfl
 | cond c a b iha ihb =>
  intro k k' F S hf h h'
  simp only [flat,Bool.and_eq_true] at hf
  simp only [depth] at h h'
  obtain ⟨k,rfl⟩:∃ m,k=m+1:=⟨k - 1,by omega⟩
  obtain ⟨k',rfl⟩:∃ m,k'=m+1:=⟨k' - 1,by omega⟩
  simp only [codeN]
  rw [iha hf.1 (show depth a≤k by omega) (show depth a≤k' by omega),ihb hf.2 (show depth b≤k by omega) (show depth b≤k' by omega)]
 | blk id a iha =>
  intro k k' F S hf h h'
  simp only [flat] at hf
  simp only [depth] at h h'
  obtain ⟨k,rfl⟩:∃ m,k=m+1:=⟨k - 1,by omega⟩
  obtain ⟨k',rfl⟩:∃ m,k'=m+1:=⟨k' - 1,by omega⟩
  simp only [codeN]
  rw [iha hf (show depth a≤k by omega) (show depth a≤k' by omega)]
 | loop a=>intro k k' F S hf; cases hf
 | rng x ps asg body=>intro k k' F S hf; cases hf
theorem EvQ_flat {E:Env} {c:ACode} {F:Fr} {S:St} {Q:Ex→Fr→St→Prop} {n:Nat} (h:EvQ E c F S Q) (hf:flat c=true) (hd:depth c≤n):∃ r,(∃ K, ∀ j,K≤j→codeN E.meth (callN E j) n c F S=some r)∧Q r.1 r.2.1 r.2.2:=by
 obtain ⟨r,⟨K,h1⟩,h2⟩:=h
 refine ⟨r,⟨K,fun j hj=>?_⟩,h2⟩
 rw [codeN_flat hf hd (show depth c≤max K n by omega),h1 j (max K n) hj (by omega)]
theorem chk_fold {p:Prg} {st:Int}:encPrg p++[.int .i64 st]=encChk p st:=rfl
@[go_sem] theorem strip_Chk {p:Prg} {st:Int}:(encChk p st).map strip=encChk p st:=by rw [encChk,List.map_append,strip_Prg]; rfl
@[go_sem] theorem low_Chk {p:Prg} {st:Int} {n:Nat}:lowL n (encChk p st)=true:=by cases p; simp [encChk,encPrg,lowL,low]
theorem strip_clone {b:Bool} {l:List ByteArray} (h:b=true→l=[]):strip (cloneV b (l.map encS))=.slice (nk b) (l.map encS):=by
 cases b with
 | true=>rw [h rfl]; rfl
 | false=>rfl
def chkPrg (p:Prg):Bool:=vHead p&&(chkBody p p.body p.params 0).1
theorem check_ok {p:Prg} (hp:OkPrg p):Sp theEnv 45 [.agg (encPrg p)] (.int .i64 (if chkPrg p=true then 0 else 1)):={
 a:=by simp only [go_sem,simprocAttr]
 l:=fun n=>by simp only [go_sem,simprocAttr]
 s:=by
  intro S
  have hx:theEnv.ext 45=some (guardH theMeth 1 pre45 post45 2 4 156):=rfl
  obtain ⟨⟨e1,F1,S1⟩,⟨K1,h1⟩,he1,hF1,hS1⟩:=EvQ_flat (n:=60) (EvQ_run (E:=theEnv) (c:=pre45) (F:=args0 [.agg (encPrg p)]) (S:=⟨[],none⟩::S) (Q:=fun e F S'=>e=.nrm∧F=put (put (args0 [.agg (encPrg p)]) 1 (.ptr S.length 0 0)) 2 (.ptr S.length 1 0)∧S'=⟨[encPrg p,[.int .i64 0]],none⟩::S) (by
   simp only [pre45,go_sem,simprocAttr])) rfl (by decide)
  simp only at he1 hF1 hS1
  subst he1 hF1 hS1
  obtain ⟨⟨e2,F2,S2⟩,⟨K2,h2⟩,hQ⟩:=EvQ_flat (n:=60) (EvQ_run (E:=theEnv) (c:=post45) (F:=put (put (put (args0 [.agg (encPrg p)]) 1 (.ptr S.length 0 0)) 2 (.ptr S.length 1 0)) 4 .undef) (S:=⟨[encPrg p,[.int .i64 0]],none⟩::S)
   (Q:=fun e F S'=>F 2=.ptr S.length 1 0∧(∃ B,S'=⟨encPrg p::[.int .i64 0]::B,none⟩::S)∧e=if chkPrg p=true then .ret else .pan stop) (by
   have hh:=head_ok (p:=p) (st:=0) (S:=⟨[encPrg p,[.int .i64 0],encChk p 0],none⟩::S) (l:=S.length) (ci:=2) hp sx
   simp only [post45,go_sem,simprocAttr,chk_fold,CallP hh]
   split
   ·rename_i hv
    have hlen:(p.params.length:Int)≤2:=by
     simp only [vHead,Bool.and_eq_true,decide_eq_true_eq] at hv
     exact hv.1.1.1
    have hb:=body_ok hp (show p.params.length≤1000 by omega) hp.bl (fun s hs=>stm_ok (l:=S.length) (ci:=2) hp (by omega) s (hp.bs s hs)) p.params p.pn p.bn 0 (⟨[encPrg p,[.int .i64 0],encChk p 0],none⟩::S) (by omega) hp.pz sx (by omega) (by omega)
    simp only [go_sem,simprocAttr] at hb
    simp only [go_sem,simprocAttr,(clone_ok p.pn p.params (by omega) hp.pz).call,strip_clone hp.pz,CallP hb,chkPrg,hv]
    split
    ·rename_i hc; simp only [go_sem,simprocAttr,hc]
    ·rename_i hc; simp only [go_sem,simprocAttr,hc]
   ·rename_i hv
    simp only [chkPrg,hv,go_sem,simprocAttr])) rfl (by decide)
  simp only at hQ
  obtain ⟨hF2,⟨B,rfl⟩,rfl⟩:=hQ
  refine ⟨max K1 K2+1,fun j hj=>?_⟩
  obtain ⟨j,rfl⟩:∃ m,j=m+1:=⟨j - 1,by omega⟩
  simp only [callN,callBody,hx,guardH,List.length_cons,List.length_nil,if_true]
  have e1:=h1 j (by omega)
  have e2:=h2 j (by omega)
  have hm:theEnv.meth=theMeth:=rfl
  rw [hm] at e1 e2
  rw [e1]
  simp only [e2]
  cases hc:chkPrg p<;>simp [put_hit,hF2,oneBox,low,strip,stop] }
end Wp
end AM
end Go.Proofs.YtimfbnojmdnlnaaGreat
end
section
namespace Go.Proofs.YtimfbnojmdnlnaaGreat
namespace AM
namespace Wp
def cAsgR (p:Prg) (names:List ByteArray) (s:Stm):Bool:=zLoop s&&zSet s.test&&decide ((s.body.length:Int)=0)&&decide ((s.els.length:Int)=0)&&vCell p names.length s.target&&decide ((nodesE s.value:Int)≤64)&&exprOk p names.length s.value
mutual
def refStm (p:Prg):Stm→List ByteArray→Int→Int→Bool×Int
 | s@⟨kind,name,_,_,_,_,_,_,_,_,body,_,els⟩,names,depth,st =>
  if kind=1 then (if cFor p names s=true then refList p body (names++[name]) (depth+1) st else (false,st))
  else if kind=2 then (if cIf names s=true then (if (refList p body names depth st).1=true then refList p els names depth (refList p body names depth st).2 else (false,(refList p body names depth st).2)) else (false,st))
  else if kind=3 then (cAsgR p names s,st)
  else (false,st)
def refList (p:Prg):List Stm→List ByteArray→Int→Int→Bool×Int
 | [],_,_,st=>(true,st)
 | s::l,names,depth,st=>if 256 < st+1∨10 < depth then (false,st+1) else (if (refStm p s names depth (st+1)).1=true then refList p l names depth (refStm p s names depth (st+1)).2 else (false,(refStm p s names depth (st+1)).2))
end
section
variable {p:Prg} {s:Stm} {names:List ByteArray} {st depth:Int} {xs ys:List Stm}
theorem refStm_for (h:s.kind=1):refStm p s names depth st=if cFor p names s=true then refList p s.body (names++[s.name]) (depth+1) st else (false,st):=by
 cases s; simp only at h; rw [refStm]; simp only [h,if_true]
theorem refStm_if (h:s.kind=2):refStm p s names depth st=if cIf names s=true then (if (refList p s.body names depth st).1=true then refList p s.els names depth (refList p s.body names depth st).2 else (false,(refList p s.body names depth st).2)) else (false,st):=by
 cases s; simp only at h; rw [refStm]
 have h1:¬ (2:Int)=1:=by decide
 simp only [h,h1,if_true,if_false]
theorem refStm_asg (h:s.kind=3):refStm p s names depth st=(cAsgR p names s,st):=by
 cases s; simp only at h; rw [refStm]
 have h1:¬ (3:Int)=1:=by decide
 have h2:¬ (3:Int)=2:=by decide
 simp only [h,h1,h2,if_true,if_false]
theorem refStm_bad (h1:s.kind≠1) (h2:s.kind≠2) (h3:s.kind≠3):refStm p s names depth st=(false,st):=by
 cases s; simp only at h1 h2 h3; rw [refStm]
 simp only [h1,h2,h3,if_false]
theorem refList_cons:refList p (s::xs) names depth st=if 256 < st+1∨10 < depth then (false,st+1) else (if (refStm p s names depth (st+1)).1=true then refList p xs names depth (refStm p s names depth (st+1)).2 else (false,(refStm p s names depth (st+1)).2)):=by rw [refList]
theorem refList_app:∀ {xs:List Stm} {st:Int},(refList p xs names depth st).1=true→refList p (xs++ys) names depth st=refList p ys names depth (refList p xs names depth st).2
 | [],st,h=>by rw [refList]; rfl
 | s::xs,st,h=>by
  rw [List.cons_append,refList_cons,refList_cons]
  rw [refList_cons] at h
  split
  ·rename_i h1
   rw [if_pos h1] at h; cases h
  ·rename_i h1
   rw [if_neg h1] at h
   split
   ·rename_i h2
    rw [if_pos h2] at h
    exact refList_app h
   ·rename_i h2
    rw [if_neg h2] at h; cases h
end
theorem is_shut (l:List ByteArray) (s:ByteArray) (hl:l.length≤LIM):Sp theEnv 104 [.slice .shut (l.map encS), .str s] (.bool (l.any fun t=>decide (s=t))):=is_ref false l s hl
theorem zLoop_fold {s:Stm}:(decide (s.name=⟨#[]⟩)&&decide (s.low.parts.length=0)&&decide (s.high.parts.length=0)&&decide (s.step=0)&&decide (s.mark=0))=zLoop s:=by simp [zLoop]
theorem zSet_fold {x:PSet}:(decide (x.dim=0)&&decide (x.pieces.length=0))=zSet x:=by simp [zSet]
theorem ref_bound {p:Prg}:∀ (s:Stm) (names:List ByteArray) (depth st:Int),(refStm p s names depth st).1=true→st≤(refStm p s names depth st).2∧(st≤256→(refStm p s names depth st).2≤256):=by
 have list:∀ (l:List Stm),(∀ s∈l, ∀ (names:List ByteArray) (depth st:Int),(refStm p s names depth st).1=true→st≤(refStm p s names depth st).2∧(st≤256→(refStm p s names depth st).2≤256)) →
   ∀ (names:List ByteArray) (depth st:Int),(refList p l names depth st).1=true→st≤(refList p l names depth st).2∧(st≤256→(refList p l names depth st).2≤256):=by
  intro l
  induction l with
  | nil=>intro _ names depth st _; rw [refList]; simp
  | cons s l ih =>
   intro h names depth st hr
   rw [refList_cons] at hr ⊢
   split at hr
   ·cases hr
   ·rename_i h1
    rw [if_neg h1]
    split at hr
    ·rename_i h2
     rw [if_pos h2]
     have a:=h s List.mem_cons_self names depth (st+1) h2
     have b:=ih (fun s hs=>h s (List.mem_cons_of_mem _ hs)) names depth _ hr
     omega
    ·cases hr
 refine Stm.ind fun s ihb ihe names depth st hr=>?_
 by_cases h1:s.kind=1
 ·rw [refStm_for h1] at hr ⊢
  split at hr
  ·rename_i h2; rw [if_pos h2]; exact list _ ihb _ _ _ hr
  ·cases hr
 by_cases h2:s.kind=2
 ·rw [refStm_if h2] at hr ⊢
  split at hr
  ·rename_i h3
   rw [if_pos h3]
   split at hr
   ·rename_i h4
    rw [if_pos h4]
    have a:=list _ ihb _ _ _ h4
    have b:=list _ ihe _ _ _ hr
    omega
   ·cases hr
  ·cases hr
 by_cases h3:s.kind=3
 ·rw [refStm_asg h3]; simp
 ·rw [refStm_bad h1 h2 h3] at hr; cases hr
theorem refl_bound {p:Prg} {names:List ByteArray} {depth:Int}:∀ {l:List Stm} {st:Int},(refList p l names depth st).1=true→st≤(refList p l names depth st).2∧(st≤256→(refList p l names depth st).2≤256)
 | [],st,_=>by rw [refList]; simp
 | s::l,st,hr=>by
  rw [refList_cons] at hr ⊢
  split at hr
  ·cases hr
  ·rename_i h1
   rw [if_neg h1]
   split at hr
   ·rename_i h2
    rw [if_pos h2]
    have a:=ref_bound s names depth (st+1) h2
    have b:=refl_bound hr
    omega
   ·cases hr
def RefBody (p:Prg) (l ci:Nat) (ss:List Stm):Prop:=∀ (names:List ByteArray) (nb bn:Bool) (depth st:Int) (S:St),(names.length:Int)≤900+depth→(nb=true→names=[])→getBox S l ci=some (encChk p st)→0≤st→st≤256→0≤depth→depth≤11 →
 CallIs theEnv (.fn 105) [.ptr l ci 0, .slice (nk bn) (ss.map encStm), .slice (nk nb) (names.map encS), .int .i64 depth] S (.ret (.bool (refList p ss names depth st).1)) (setBox S l ci (encChk p (refList p ss names depth st).2))
def RefStmt (p:Prg) (l ci:Nat) (s:Stm):Prop:=∀ (names:List ByteArray) (nb:Bool) (depth st:Int) (S:St),(names.length:Int)≤900+depth→(nb=true→names=[])→getBox S l ci=some (encChk p st)→0≤st→st≤256→0≤depth→depth≤10 →
 CallIs theEnv (.fn 140) [.ptr l ci 0, .agg (encStm s), .slice (nk nb) (names.map encS), .int .i64 depth] S (.ret (.bool (refStm p s names depth st).1)) (setBox S l ci (encChk p (refStm p s names depth st).2))
theorem ref_stm {p:Prg} {l ci:Nat} (hp:OkPrg p) {s:Stm} (hs:OkStm s) (hc:cntE s.value≤1000000000) (hb:RefBody p l ci s.body) (he:RefBody p l ci s.els):RefStmt p l ci s:=by
 intro names nb depth st S hn hnb hg h0 h256 hd0 hd
 refine CallIs.fn rfl rfl rfl ?_
 have g1:=fun T=>getBox_up (T:=T) hg
 have g2:=fun T v=>setBox_up (T:=T) (v:=v) hg
 have g3:∀ v,dz (some v)=some v→getBox (setBox S l ci v) l ci=some v:=fun v hv=>getBox_set hv hg
 have g5:=fun T v hv=>getBox_up (T:=T) (g3 v hv)
 have g7:∀ T v w,setBox (T::setBox S l ci v) l ci w=T::setBox S l ci w:=fun T v w=>by rw [setBox_below (by rw [len_setBox]; have:=getBox_lt hg; omega),setBox_setBox]
 have hself:=setBox_self hg
 simp only [a140,c140,go_sem,simprocAttr,(zeroRef_ok _).call,(zeroExp_ok _).callG,zLoop_fold,zSet_fold]
 by_cases h3:s.kind=3
 ·have hcell:=fun T=>cell_ref (n:=(names.length:Int)) hs.target' (g1 T)
  have hexp:=fun T=>expr_ref (p:=p) (st:=st) (n:=(names.length:Int)) s.value hs.value' _ (g1 T)
  rw [refStm_asg h3]
  simp only [go_sem,simprocAttr,h3,CallGP (hcell _),(nodes_ref s.value hs.value' hc).callG,CallGP (hexp _),hself,cAsgR]
 by_cases h2:s.kind=2
 ·rw [refStm_if h2]
  have hbd:=fun T=>hb names nb s.bn depth st (T::S) (by omega) hnb (g1 T) h0 h256 hd0 (by omega)
  simp only [g2] at hbd
  cases hE:(zLoop s&&(zRef s.target&&zExp s.value)&&vSet s.test&&decide (s.test.dim=(names.length:Int))) with
  | false =>
   have hci:cIf names s=false:=by rw [← hE]; simp only [cIf,Bool.and_assoc]
   simp only [go_sem,simprocAttr,h2,(set_ref _ hs.test').callG,hE,hself,hci]
  | true =>
   have hci:cIf names s=true:=by rw [← hE]; simp only [cIf,Bool.and_assoc]
   cases hr:(refList p s.body names depth st).1 with
   | false=>simp only [go_sem,simprocAttr,h2,(set_ref _ hs.test').callG,hE,CallP (hbd _),hr,hci]
   | true =>
    have hst:0≤(refList p s.body names depth st).2∧(refList p s.body names depth st).2≤256:=by have:=refl_bound hr; omega
    have hed:=fun T=>he names nb s.en depth (refList p s.body names depth st).2 (T::setBox S l ci (encChk p (refList p s.body names depth st).2)) (by omega) hnb (g5 T _ rfl) hst.1 hst.2 hd0 (by omega)
    simp only [g7] at hed
    simp only [go_sem,simprocAttr,h2,(set_ref _ hs.test').callG,hE,CallP (hbd _),hr,hci,CallP (hed _)]
 by_cases h1:s.kind=1
 ·rw [refStm_for h1]
  have hbl:=bound_ref s.low (names.length:Int) hs.low'
  have hbh:=bound_ref s.high (names.length:Int) hs.high'
  have hci:cFor p names s=((vName s.name&&isNew names s.name&&arrNew p s.name)&&vBound names.length s.low&&vBound names.length s.high&&(decide (1≤s.step)&&decide (s.step≤64)&&decide (0≤s.mark)&&decide (s.mark≤2)) &&
   (decide (s.step=1)||lowOne s.low)&&(zSet s.test&&zRef s.target&&zExp s.value&&decide ((s.els.length:Int)=0))):=rfl
  simp only [go_sem,simprocAttr,h1,(name_ref _).callG,(is_ref nb names s.name (le_lim (by omega))).callG]
  rw [Run_if]
  simp only [go_sem,simprocAttr]
  have hck:=fun T=>hb (names++[s.name]) false s.bn (depth+1) st (T::S) (by simp; omega) (by simp) (g1 T) h0 h256 (by omega) (by omega)
  simp only [g2,nk_false] at hck
  have hwd:IntKind.i64.wrap (depth+1)=depth+1:=wrap64 (by omega) (by omega)
  have hlow:lowOne s.low=match s.low.parts with | [q]=>(match q.rows with | [r]=>decide (r.div=1) | _=>false) | _=>false:=rfl
  have happ1:∀ k,appO 9 1 16 (.slice (.own 9) []) (.slice k (names.map encS))=some (.slice (.own 9) (names.map encS)):=fun k=>appO_own (lens_S names) (by simp; omega) (by simp; omega)
  have happ2:∀ k,appO 9 1 16 (.slice (.own 9) (names.map encS)) (.slice k [[.str s.name]])=some (.slice (.own 9) ((names++[s.name]).map encS)):=fun k=>by
   rw [List.map_append]; exact appO_own rfl (by simp; omega) (by simp; omega)
  split
  ·rename_i hx
   have:cFor p names s=false:=by rw [hci]; simp only [isNew]; grind
   simp only [this,Bool.false_eq_true,if_false,hself,and_self]
  ·rename_i hx
   simp only [go_sem,simprocAttr,g1]
   refine Run_all p.arrays (fun a=>!decide (a.name=s.name)) (fun S'=>∃ B,S'=⟨encStm s::B,none⟩::S) [0,2,3,5,9,10,11,12,64,95] hp.al sx sx rfl rfl rfl sx ⟨_,rfl⟩ ?_ ?_
   ·rintro k F _ a ha hm ⟨B,rfl⟩ hi hkept hall
    simp only [go_sem,simprocAttr] at hkept
    simp only [go_sem,simprocAttr,hkept,hi,iaO_map ha,Run_if]
    rw [← List.not_any_eq_all_not] at hall
    split
    ·rename_i hn
     have:cFor p names s=false:=by rw [hci]; simp only [arrNew]; grind
     simp only [go_sem,simprocAttr,this,hself]
    ·rename_i hn
     simp [hn]
   ·rintro F _ hall ⟨B,rfl⟩ hkept
    rw [← List.not_any_eq_all_not] at hall
    simp only [go_sem,simprocAttr] at hkept
    simp only [go_sem,simprocAttr,hkept,hbl.call,hbh.callG]
    rw [Run_if]
    simp only [go_sem,simprocAttr]
    split
    ·rename_i hx2
     have:cFor p names s=false:=by rw [hci]; grind
     simp only [go_sem,simprocAttr,this,hself]
    ·rename_i hx2
     by_cases hst:1 < s.step
     ·by_cases hL:∃ q,s.low.parts=[q]
      ·obtain ⟨q,hq⟩:=hL
       by_cases hR:∃ r,q.rows=[r]
       ·obtain ⟨r,hr⟩:=hR
        rw [hq] at hlow
        simp only [hr] at hlow
        simp only [go_sem,simprocAttr,hkept,hst,hq,hr,hwd,happ1,happ2,CallP (hck _),Run_if]
        split
        ·rename_i hd1
         have:cFor p names s=false:=by rw [hci]; simp only [isNew,arrNew]; grind
         simp only [this,Bool.false_eq_true,if_false,hself,and_self]
        ·rename_i hd1
         have:cFor p names s=true:=by rw [hci]; simp only [isNew,arrNew]; grind
         simp only [this,if_true,and_self]
       ·have hr1:¬ (q.rows.length:Int)=1:=fun h=>hR (by
         match hx:q.rows,h with
         | [r],_=>exact ⟨r,rfl⟩)
        have hlow':lowOne s.low=false:=by
         rw [hlow,hq]; simp only
         split
         ·rename_i r hr; exact absurd ⟨r,hr⟩ hR
         ·rfl
        simp only [go_sem,simprocAttr,hkept,hst,hq,hr1,Run_if]
        have:cFor p names s=false:=by rw [hci]; simp only [isNew,arrNew]; grind
        simp only [this,Bool.false_eq_true,if_false,hself,and_self]
      ·have hl1:¬ (s.low.parts.length:Int)=1:=fun h=>hL (by
        match hx:s.low.parts,h with
        | [r],_=>exact ⟨r,rfl⟩)
       have hlow':lowOne s.low=false:=by
        rw [hlow]
        split
        ·rename_i r hr; exact absurd ⟨r,hr⟩ hL
        ·rfl
       simp only [go_sem,simprocAttr,hkept,hst,hl1,Run_if]
       have:cFor p names s=false:=by rw [hci]; simp only [isNew,arrNew]; grind
       simp only [this,Bool.false_eq_true,if_false,hself,and_self]
     ·simp only [go_sem,simprocAttr,hkept,hst,hwd,happ1,happ2,CallP (hck _),Run_if]
      have:cFor p names s=true:=by rw [hci]; simp only [isNew,arrNew]; grind
      simp only [this,if_true,and_self]
 ·rw [refStm_bad h1 h2 h3]
  simp only [go_sem,simprocAttr,h1,h2,h3,hself]
theorem ref_body {p:Prg} {l ci:Nat} {ss:List Stm} (hl:ss.length≤LIM) (hs:∀ s∈ss,RefStmt p l ci s):RefBody p l ci ss:=by
 intro names nb bn depth st S hn hnb hb h0 h256 hd0 hd
 refine CallIs.fn rfl rfl rfl ?_
 have g1:=fun T=>getBox_up (T:=T) hb
 have g3:∀ v,dz (some v)=some v→getBox (setBox S l ci v) l ci=some v:=fun v hv=>getBox_set hv hb
 have g5:=fun T v hv=>getBox_up (T:=T) (g3 v hv)
 have g7:∀ T v w,setBox (T::setBox S l ci v) l ci w=T::setBox S l ci w:=fun T v w=>by rw [setBox_below (by rw [len_setBox]; have:=getBox_lt hb; omega),setBox_setBox]
 have hself:=setBox_self hb
 simp only [a105,c105,go_sem,simprocAttr]
 refine Run_range ss.length [0,2,3,11] [] (fun k vs S'=>∃ B st',S'=⟨B,none⟩::setBox S l ci (encChk p st')∧refList p (ss.take k) names depth st=(true,st')∧0≤st'∧st'≤256) hl sx sx rfl rfl rfl rfl sx ⟨_,st,by rw [hself],by rw [List.take_zero,refList],h0,h256⟩ ?_ ?_
 ·rintro k F _ hk ⟨B,st',rfl,hc,h0',h256'⟩ hi hkept
  simp only [go_sem,simprocAttr] at hkept
  obtain ⟨s,hsk⟩:∃ s,ss[k]?=some s:=⟨ss[k],List.getElem?_eq_getElem hk⟩
  have hm:=List.mem_of_getElem? hsk
  have hw2:IntKind.i64.wrap (st'+1)=st'+1:=wrap64 (by omega) (by omega)
  have hall:refList p ss names depth st=refList p (s::ss.drop (k+1)) names depth st':=by
   conv=>lhs; rw [cut_at hsk]
   rw [refList_app (by rw [hc]),hc]
  have htake:refList p (ss.take (k+1)) names depth st=refList p [s] names depth st':=by
   rw [take_snoc hsk,refList_app (by rw [hc]),hc]
  rw [hall,refList_cons]
  rw [refList_cons] at htake
  by_cases hE:256 < st'+1∨10 < depth
  ·have hE':(decide (256 < st'+1)||decide (10 < depth))=true:=by simpa using hE
   simp only [go_sem,simprocAttr,hkept,hi,iaO_map hsk,g5,g7,hw2,hE',if_pos hE]
  ·have hE':(decide (256 < st'+1)||decide (10 < depth))=false:=by simpa [not_or] using hE
   rw [if_neg hE] at htake
   have hsp:=hs s hm names nb depth (st'+1) (⟨B++[encStm s],none⟩::setBox S l ci (encChk p (st'+1))) hn hnb (g5 _ _ rfl) (by omega) (by omega) hd0 (by omega)
   simp only [g7] at hsp
   cases hr:(refStm p s names depth (st'+1)).1 with
   | true =>
    simp only [go_sem,simprocAttr,hkept,hi,iaO_map hsk,g5,g7,hw2,hE',CallP hsp,hr,if_neg hE]
    rw [hr,if_pos rfl,refList] at htake
    have hbd:=ref_bound s names depth (st'+1) hr
    exact ⟨_,_,⟨rfl,rfl⟩,htake,by omega,hbd.2 (by omega)⟩
   | false =>
    simp only [go_sem,simprocAttr,hkept,hi,iaO_map hsk,g5,g7,hw2,hE',CallP hsp,hr,if_neg hE]
 ·rintro F _ ⟨B,st',rfl,hc,_⟩ hkept
  rw [List.take_length] at hc
  simp only [go_sem,simprocAttr,hc]
theorem stm_agree {p:Prg}:∀ (s:Stm) (names:List ByteArray) (depth st:Int),depth=(names.length:Int) - p.params.length→(chkStm p s names st).1=(refStm p s names depth st).1∧((chkStm p s names st).1=true→(chkStm p s names st).2=(refStm p s names depth st).2):=by
 have list:∀ (l:List Stm),(∀ s∈l, ∀ (names:List ByteArray) (depth st:Int),depth=(names.length:Int) - p.params.length→(chkStm p s names st).1=(refStm p s names depth st).1∧((chkStm p s names st).1=true→(chkStm p s names st).2=(refStm p s names depth st).2)) →
   ∀ (names:List ByteArray) (depth st:Int),depth=(names.length:Int) - p.params.length→depth≤10→(chkList p l names st).1=(refList p l names depth st).1∧((chkList p l names st).1=true→(chkList p l names st).2=(refList p l names depth st).2):=by
  intro l
  induction l with
  | nil=>intro _ names depth st _ _; rw [chkList,refList]; simp
  | cons s l ih =>
   intro h names depth st hd h10
   rw [chkList_cons,refList_cons]
   have a:=h s List.mem_cons_self names depth (st+1) hd
   by_cases h1:st+1≤256
   ·have h1':¬(256 < st+1∨10 < depth):=by omega
    rw [if_pos h1,if_neg h1', ← a.1]
    split
    ·rename_i h2
     rw [← a.2 h2]
     exact ih (fun s hs=>h s (List.mem_cons_of_mem _ hs)) names depth _ hd h10
    ·simp
   ·have h1':256 < st+1∨10 < depth:=by omega
    rw [if_neg h1,if_pos h1']; simp
 have body:∀ (l:List Stm),(∀ s∈l, ∀ (names:List ByteArray) (depth st:Int),depth=(names.length:Int) - p.params.length→(chkStm p s names st).1=(refStm p s names depth st).1∧((chkStm p s names st).1=true→(chkStm p s names st).2=(refStm p s names depth st).2)) →
   ∀ (names:List ByteArray) (depth st:Int),depth=(names.length:Int) - p.params.length→(chkBody p l names st).1=(refList p l names depth st).1∧((chkBody p l names st).1=true→(chkBody p l names st).2=(refList p l names depth st).2):=by
  intro l h names depth st hd
  unfold chkBody
  by_cases h10:depth≤10
  ·have:deep p l names=true:=by simp only [deep]; simp; omega
   rw [if_pos this]
   exact list l h names depth st hd h10
  ·cases l with
   | nil=>simp [deep,chkList,refList]
   | cons s l =>
    have:deep p (s::l) names=false:=by simp only [deep]; simp; omega
    rw [if_neg (by rw [this]; simp),refList_cons,if_pos (show 256 < st+1∨10 < depth by omega)]; simp
 refine Stm.ind fun s ihb ihe names depth st hd=>?_
 by_cases h1:s.kind=1
 ·rw [chkStm_for h1,refStm_for h1]
  split
  ·exact body _ ihb _ _ _ (by simp; omega)
  ·simp
 by_cases h2:s.kind=2
 ·rw [chkStm_if h2,refStm_if h2]
  split
  ·have a:=body _ ihb names depth st hd
   rw [← a.1]
   split
   ·rename_i h3
    rw [← a.2 h3]
    exact body _ ihe names depth _ hd
   ·simp
  ·simp
 by_cases h3:s.kind=3
 ·rw [chkStm_asg h3,refStm_asg h3]
  refine ⟨?_,fun _=>rfl⟩
  simp only [cAsg,cAsgR]
  have hn:=(node_expr (p:=p) (n:=(names.length:Int)) s.value 0).1
  have h4:=nodes_eq s.value
  rw [hn]
  have:decide ((nodesE s.value:Int)≤64)=decide ((0:Int)+(cntE s.value:Int)≤64):=by
   rw [decide_eq_decide]
   constructor
   ·intro h; have:=h4.2 (by omega); omega
   ·intro h; omega
  rw [this]
  cases exprOk p names.length s.value<;>cases decide ((0:Int)+(cntE s.value:Int)≤64)<;>simp
 ·rw [chkStm_bad h1 h2 h3,refStm_bad h1 h2 h3]; simp
end Wp
end AM
end Go.Proofs.YtimfbnojmdnlnaaGreat
end
section
namespace Go.Proofs.YtimfbnojmdnlnaaGreat
namespace AM
namespace Wp
inductive SmS:Stm→Prop where
 | mk (x:Stm) (v:cntE x.value≤1000000000) (b:∀ y∈x.body,SmS y) (e:∀ y∈x.els,SmS y):SmS x
theorem ref_all {p:Prg} {l ci:Nat} (hp:OkPrg p):∀ s,OkStm s→SmS s→RefStmt p l ci s:=by
 refine Stm.ind fun s ihb ihe hs hm=>?_
 obtain ⟨_,hv,hb,he⟩:=hm
 exact ref_stm hp hs hv (ref_body hs.bn' fun t ht=>ihb t ht (hs.body' t ht) (hb t ht)) (ref_body hs.en' fun t ht=>ihe t ht (hs.els' t ht) (he t ht))
def arrOk (n:Int) (a:Arr):Bool:=decide ((a.sizes.length:Int)≤3)&&a.sizes.all (vOverL n)
def allNames (p:Prg):List ByteArray:=p.params++p.arrays.map (·.name)
def refPrg (p:Prg):Bool:=(decide ((p.params.length:Int)≤2)&&decide ((p.arrays.length:Int)≤8))&&p.arrays.all (arrOk p.params.length)&&hPar [] (allNames p)&&(refList p p.body p.params 0 0).1
theorem hArr_split {n:Int}:∀ {l:List Arr} {acc:List ByteArray},hArr n acc l=(l.all (arrOk n)&&hPar acc (l.map (·.name)))
 | [],acc=>rfl
 | a::l,acc=>by
  simp only [hArr,hArr_split (l:=l),List.all_cons,List.map_cons,hPar,arrOk]
  cases vName a.name<;>cases isNew acc a.name<;>cases decide ((a.sizes.length:Int)≤3)<;>cases a.sizes.all (vOverL n)<;>simp
theorem prg_agree (p:Prg):chkPrg p=refPrg p:=by
 unfold chkPrg refPrg vHead allNames
 have h:=(stm_agree (p:=p))
 have hb:(chkBody p p.body p.params 0).1=(refList p p.body p.params 0 0).1:=by
  unfold chkBody
  have hd:deep p p.body p.params=true:=by simp only [deep]; simp
  rw [if_pos hd]
  have list:∀ (l:List Stm) (st:Int),(chkList p l p.params st).1=(refList p l p.params 0 st).1:=by
   intro l
   induction l with
   | nil=>intro st; rw [chkList,refList]
   | cons s l ih =>
    intro st
    rw [chkList_cons,refList_cons]
    have a:=h s p.params 0 (st+1) (by omega)
    by_cases h1:st+1≤256
    ·have h1':¬(256 < st+1∨10 < (0:Int)):=by omega
     rw [if_pos h1,if_neg h1', ← a.1]
     split
     ·rename_i h2
      rw [← a.2 h2]
      exact ih _
     ·rfl
    ·have h1':256 < st+1∨10 < (0:Int):=by omega
     rw [if_neg h1,if_pos h1']
  exact list _ _
 rw [hb,hArr_split,hPar_app,List.nil_append]
 cases decide ((p.params.length:Int)≤2)&&decide ((p.arrays.length:Int)≤8)<;>cases p.arrays.all (arrOk p.params.length)<;>cases hPar [] p.params<;>simp
theorem valid_ref {p:Prg} (hp:OkPrg p) (hm:∀ s∈p.body,SmS s):Sp theEnv 65 [.agg (encPrg p)] (.bool (refPrg p)):=by
 refine Sp.fn rfl rfl rfl sx sy fun S=>?_; simp only [a65,c65,go_sem,simprocAttr]
 rw [Run_if]
 simp only [go_sem,simprocAttr]
 split
 ·rename_i h
  simp only [refPrg]
  grind
 ·rename_i h
  have hlen:p.params.length≤2∧p.arrays.length≤8:=by grind
  have happ0:∀ k,appO 9 1 16 (.slice (.own 9) []) (.slice k (p.params.map encS))=some (.slice (.own 9) (p.params.map encS)):=fun k=>appO_own (lens_S _) (by simp; omega) (by simp; omega)
  simp only [go_sem,simprocAttr,happ0]
  refine Run_range p.arrays.length [1,26] [3] (fun k vs S'=>vs=[.slice (.own 9) ((p.params++(p.arrays.take k).map (·.name)).map encS)]∧(∃ B,S'=⟨encPrg p::B,none⟩::S)∧(p.arrays.take k).all (arrOk p.params.length)=true) hp.al sx sx rfl rfl rfl rfl sx ⟨by simp only [go_sem,simprocAttr,List.take_zero],⟨_,rfl⟩,rfl⟩ ?_ ?_
  ·rintro k F _ hk ⟨hv,⟨B,rfl⟩,hok⟩ hi hkept
   simp only [go_sem,simprocAttr] at hkept hv
   obtain ⟨a,hak⟩:∃ a,p.arrays[k]?=some a:=⟨p.arrays[k],List.getElem?_eq_getElem hk⟩
   have ham:=List.mem_of_getElem? hak
   have hao:=hp.as a ham
   have hkl2:(p.params++(p.arrays.take k).map (·.name)).length≤10:=by simp; omega
   have happ:∀ K,appO 9 1 16 (.slice (.own 9) ((p.params++(p.arrays.take k).map (·.name)).map encS)) (.slice K [[.str a.name]])=some (.slice (.own 9) (((p.params++(p.arrays.take k).map (·.name))++[a.name]).map encS)):=fun K=>by
    rw [List.map_append (l₂:=[a.name])]; exact appO_own rfl (by rw [List.length_map]; simp only [List.length_singleton]; omega) (by rw [List.length_map]; simp only [List.length_singleton]; omega)
   simp only [go_sem,simprocAttr,hkept,hi,hv,iaO_map hak,happ]
   rw [Run_if]
   simp only [go_sem,simprocAttr]
   have hbad:arrOk p.params.length a=false→refPrg p=false:=fun h=>by
    have:p.arrays.all (arrOk p.params.length)=false:=List.all_eq_false.2 ⟨a,ham,by simp [h]⟩
    simp only [refPrg,this,Bool.and_false,Bool.false_and]
   split
   ·rename_i h3
    intro _
    exact (hbad (by simp only [arrOk]; grind)).symm
   ·rename_i h3
    refine Run_all a.sizes (vOverL p.params.length) (fun S'=>∃ B,S'=⟨encPrg p::B,none⟩::S) [1,3,26,28,42] hao.l (by simp only [go_sem,simprocAttr,hkept,hi]) (by simp only [go_sem,simprocAttr,hkept,hi]) rfl rfl rfl (by simp only [go_sem,simprocAttr,hkept,hi]) ⟨_,rfl⟩ ?_ ?_
    ·rintro k F2 _ x hx hmx ⟨B,rfl⟩ hi3 hkept3 hall
     simp only [go_sem,simprocAttr,hkept,hi] at hkept3 hall
     simp only [go_sem,simprocAttr,hkept3,hi3,iaO_map hx,(over_ref x _ (hao.s x hmx)).call,Run_if]
     cases hv2:vOverL p.params.length x with
     | true=>simp only [go_sem,simprocAttr]
     | false =>
      simp only [go_sem,simprocAttr]
      intros
      exact (hbad (by simp only [arrOk,hall hv2,Bool.and_false])).symm
    ·rintro F2 _ hall ⟨B2,rfl⟩ hkept3
     simp only [go_sem,simprocAttr,hkept] at hkept3
     simp only [go_sem,simprocAttr,hkept3]
     rw [take_snoc hak]
     refine ⟨by rw [List.map_append (l₂:=[a])]; rfl,?_⟩
     rw [List.all_append,hok,Bool.true_and,List.all_cons,List.all_nil,Bool.and_true]
     simp only [arrOk,hall,Bool.and_true,decide_eq_true_eq]
     omega
  ·rintro F _ ⟨hv,⟨B,rfl⟩,hok⟩ hkept
   simp only [go_sem,simprocAttr] at hkept hv
   rw [List.take_length] at hok hv
   have hall:p.params++p.arrays.map (·.name)=allNames p:=rfl
   rw [hall] at hv
   have hnl:(allNames p).length≤10:=by simp [allNames]; omega
   simp only [go_sem,simprocAttr,hkept,hv]
   refine Run_range (allNames p).length [1,3,56] [] (fun k vs S'=>(∃ B,S'=⟨encPrg p::B,none⟩::S)∧hPar [] ((allNames p).take k)=true) (by omega) sx sx rfl rfl rfl rfl (by simp only [go_sem,simprocAttr,hkept,hv]) ⟨⟨_,rfl⟩,rfl⟩ ?_ ?_
   ·rintro k F2 _ hk ⟨⟨B,rfl⟩,hpar⟩ hi2 hkept2
    simp only [go_sem,simprocAttr,hkept,hv] at hkept2
    obtain ⟨s,hsk⟩:∃ s,(allNames p)[k]?=some s:=⟨(allNames p)[k],List.getElem?_eq_getElem hk⟩
    have hcut:=cutO_hi (n:=1) (k:=k) (kk:=.i64) (xs:=(allNames p).map encS) (lens_S _) (by simp; omega)
    rw [← List.map_take] at hcut
    simp only [go_sem,simprocAttr,hkept2,hi2,iaO_map hsk,(name_ref s).call,hcut,(is_shut ((allNames p).take k) s (le_lim (by simp; omega))).callG,Run_if]
    split
    ·rename_i hbad
     intro _
     have:hPar [] (allNames p)=false:=by
      rw [cut_at hsk,hPar_app,hpar,Bool.true_and,List.nil_append,hPar]
      simp only [isNew]
      grind
     simp only [refPrg,this,Bool.and_false,Bool.false_and]
    ·rename_i hgood
     rw [take_snoc hsk,hPar_app,hpar,Bool.true_and,List.nil_append,hPar,hPar]
     simp only [isNew]
     grind
   ·rintro F2 _ ⟨⟨B,rfl⟩,hpar⟩ hkept2
    simp only [go_sem,simprocAttr,hkept,hv] at hkept2
    rw [List.take_length] at hpar
    have hb:=ref_body (l:=S.length) (ci:=blen B+1) hp.bl (fun s hs=>ref_all hp s (hp.bs s hs) (hm s hs)) p.params p.pn p.bn 0 0 (⟨encPrg p::(B++[encChk p 0]),none⟩::S) (by omega) hp.pz sx (by omega) (by omega) (by omega) (by omega)
    simp only [go_sem,simprocAttr] at hb
    simp only [go_sem,simprocAttr,hkept2,chk_fold,CallP hb,refPrg,hpar,hok]
    grind
end Wp
end AM
end Go.Proofs.YtimfbnojmdnlnaaGreat
end
