/- run.machine: body and loop; run.machine: the point grows and shrinks; run.machine: loop; run.machine: all statements; run.executed; A program that Check lets pass may be executed; memories that fit. -/
import Derived.Test.YtimfbnojmdnlnaaKM30
import Derived.Test.YtimfbnojmdnlnaaKSfI
set_option linter.all false
set_option maxRecDepth 100000
section
namespace Go.Proofs.Ytimfbnojmdnlnaa
namespace AM
namespace Wp
def loopI (f:Int→Int→List (List Int)→Rs) (step high:Int):Nat→Int→Int→List (List Int)→Rs
 | 0,_,st,rows=>.ok st rows
 | n+1,v,st,rows=>if v≤high then (match stepV st rows with
  | .pan e=>.pan e
  | .ok st rows=>match f v st rows with
   | .pan e=>.pan e
   | .ok st rows=>loopI f step high n (wi (v+step)) st rows) else .ok st rows
mutual
def stmV (sh:List Shape):Stm→List Int→Int→List (List Int)→Rs
 | s@⟨kind,_,low,high,step,_,test,_,_,_,body,_,els⟩,x,st,rows =>
  if kind=1 then (match boundV true x low with
   | none=>.pan 6
   | some lo=>match boundV false x high with
    | none=>.pan 6
    | some hi=>loopI (fun v st rows=>bodyV sh body (x++[v]) st rows) step hi (hi - lo+1).toNat lo st rows)
  else if kind=2 then (if (hasV test x).1 then bodyV sh body x st rows else bodyV sh els x st rows)
  else assignV sh s x st rows
def bodyV (sh:List Shape):List Stm→List Int→Int→List (List Int)→Rs
 | [],_,st,rows=>.ok st rows
 | s::l,x,st,rows=>match stmV sh s x st rows with
  | .pan e=>.pan e
  | .ok st rows=>bodyV sh l x st rows
end
theorem stmV_eq (sh:List Shape) (s:Stm) (x:List Int) (st:Int) (rows:List (List Int)):stmV sh s x st rows =
  if s.kind=1 then (match boundV true x s.low with
   | none=>.pan 6
   | some lo=>match boundV false x s.high with
    | none=>.pan 6
    | some hi=>loopI (fun v st rows=>bodyV sh s.body (x++[v]) st rows) s.step hi (hi - lo+1).toNat lo st rows)
  else if s.kind=2 then (if (hasV s.test x).1 then bodyV sh s.body x st rows else bodyV sh s.els x st rows)
  else assignV sh s x st rows:=by
 cases s; rw [stmV]
def okBn (nv:Nat) (b:Bound):Prop:=b.parts.length≤LIM∧∀ q∈b.parts,q.rows.length≤LIM∧∀ r∈q.rows,r.l.c.length≤nv
inductive OkSt (sh:List Shape):Nat→Stm→Prop
 | loop {nv:Nat} {s:Stm} (h:s.kind=1) (hn:nv+1≤1000) (hl:okBn nv s.low) (hh:okBn nv s.high) (hs:1≤s.step∧s.step≤64) (hb:∀ t∈s.body,OkSt sh (nv+1) t):OkSt sh nv s
 | test {nv:Nat} {s:Stm} (h:s.kind=2) (hb:∀ t∈s.body,OkSt sh nv t) (he:∀ t∈s.els,OkSt sh nv t):OkSt sh nv s
 | asg {nv:Nat} {s:Stm} (h1:s.kind≠1) (h2:s.kind≠2) (he:OkX sh nv s.value) (ht:OkRf sh nv s.target):OkSt sh nv s
variable {U:St} {T:Lev} {B1:List (List V)} {B0:St} {L:Nat} {c:Mc} {x:List Int} {st:Int} {rows:List (List Int)}
section
variable {E:Env} {ks:List KI} {F:Fr} {S R:St} {Q:Ex→Fr→St→Prop} {bs:List Blk} {d:Option Nat}
theorem Callw_sp {f:Nat} {xs:List Opd} {ar:List V} {v:V} (h:Sp E f ar v) (hm:(xs.map fun x=>evO F x).mapM (frz S 0 4)=some ar) (hf:flatW v=true) :
  Wk E (.s (.seq ⟨d, .callw f xs,none⟩::bs)) ks F S Q=Wk E (.s bs) ks (putO F d v) S Q:=by
 show callwK E f ((xs.map fun x=>evO F x).mapM (frz S 0 4)) d F S (fun F S=>Wk E (.s bs) ks F S Q)=_
 rw [hm]
 simp only [callwK,h.a,true_and]
 rw [(CallIs.q (h.s []))]
 simp only [hf,true_and]
end
theorem frz_x {T:Lev} {xv:V} (hl:B0.length=L) (h:XB L B1 xv x):∃ b,frz (T::base U B1 B0) 0 4 xv=some (.slice (nk b) (x.map encI)):=by
 rcases h with ⟨rfl,rfl⟩ | ⟨xi,rest,_,rfl,hb⟩
 ·exact ⟨true,rfl⟩
 ·refine ⟨false,?_⟩
  have h1:cutL (ints (x++rest)) 0 (x.length*1)=some (ints x):=by
   simp [cutL,ints]
  have h2:(ints x).mapM (frz (T::base U B1 B0) 0 3)=some (ints x):=mapM_still (k:=2) fun c hc=>by
   simp only [ints,List.mem_map] at hc
   obtain ⟨y,_,rfl⟩:=hc
   exact ⟨rfl,rfl,rfl⟩
  have h3:lowL 0 (ints x)=true:=lowL_still fun c hc=>by
   simp only [ints,List.mem_map] at hc
   obtain ⟨y,_,rfl⟩:=hc
   exact ⟨rfl,rfl,rfl⟩
  have h4:=chunk_one (ints x)
  rw [ints_len] at h4
  rw [frz,if_neg (by omega)]
  split
  ·rename_i h0
   rw [List.eq_nil_of_length_eq_zero h0]; rfl
  ·rw [getBox_up1 hl,hb,Option.bind_some,h1,Option.bind_some,h2,Option.bind_some,if_pos ⟨by decide,h3⟩,h4]
   simp [ints,encI,nk]
theorem frz_PSet {S:St} (t:PSet):frz S 0 4 (.agg (encPSet t))=some (.agg (encPSet t)):=by
 have h:(encPSet t).mapM (frz S 0 3)=some (encPSet t):=mapM_still (k:=2) fun c hc=>by
  simp only [encPSet,List.mem_cons,List.not_mem_nil,or_false] at hc
  rcases hc with rfl | rfl
  ·exact ⟨rfl,rfl,rfl⟩
  ·exact ⟨rfl,rfl,strip_nk⟩
 rw [frz,h]; rfl
def BodyQ (c:Mc) (nv:Nat) (l:List Stm):Prop:=∀ (b:Bool) (x:List Int) (first st:Int) (rows:List (List Int)) (B1:List (List V)) (B0 U:St),x.length=nv→calmS U=true→MI c x st rows B1 B0 →
 CallQ theEnv (.fn 94) [.ptr c.L c.mi 0, .slice (nk b) (l.map encStm), .int .i64 first] (base U B1 B0) (EndQ c x U (bodyV c.sh l x st rows))
def LoopQ (c:Mc) (nv:Nat) (s:Stm):Prop:=∀ (x:List Int) (first st:Int) (rows:List (List Int)) (B1:List (List V)) (B0 U:St),x.length=nv→calmS U=true→MI c x st rows B1 B0 →
 CallQ theEnv (.fn 122) [.ptr c.L c.mi 0, .agg (encStm s), .int .i64 first] (base U B1 B0) (EndQ c x U (stmV c.sh s x st rows))
theorem body_list {nv:Nat} (hnv:nv≤1000) {l:List Stm} (hl:l.length≤LIM) (hok:∀ s∈l,OkStm s) (hst:∀ s∈l,OkSt c.sh nv s) (h1:∀ s∈l,s.kind=1→LoopQ c nv s) (h2:∀ s∈l,s.kind=2→BodyQ c nv s.body∧BodyQ c nv s.els):BodyQ c nv l:=by
 intro b x first st rows B1 B0 U hx hU h
 have hxl:x.length≤LIM:=by rw [hx]; exact Nat.le_trans hnv (by decide)
 have hR0:=h.l
 refine CallQ.fn rfl rfl rfl ?_
 simp only [a94,c94,go_sem,simprocAttr,hR0]
 refine Run_range l.length [0,10] [2] (fun k vs S'=>∃ (B B1:List (List V)) (B0:St) (f st':Int) (rows':List (List Int)),vs=[.int .i64 f]∧S'=⟨B,none⟩::base U B1 B0∧calmB B=true∧MI c x st' rows' B1 B0∧bodyV c.sh (l.drop k) x st' rows'=bodyV c.sh l x st rows) (Nat.le_trans hl (by decide)) sx sx rfl rfl rfl rfl sx ⟨[],B1,B0,first,st,rows,by simp only [go_sem,simprocAttr],rfl,rfl,h,rfl⟩ ?_ ?_
 ·rintro k F _ hk ⟨B,B1,B0,f,st',rows',hv,rfl,hB,h,hbv⟩ hi hkept
  simp only [go_sem,simprocAttr] at hkept hv
  obtain ⟨s,hs⟩:∃ s,l[k]?=some s:=⟨l[k],List.getElem?_eq_getElem hk⟩
  have hm:=List.mem_of_getElem? hs
  have hso:=hok s hm
  rw [drop_at hs,bodyV] at hbv
  have hR:=h.l
  have hB':calmB (B++[encStm s])=true:=by simp only [go_sem,simprocAttr,hB]
  have hU':calmS (⟨B++[encStm s],none⟩::U)=true:=by simp only [go_sem,simprocAttr,hB,hU]
  have hasg:Sp theEnv 124 [.slice .shut [encStm s]] (.int .i64 (asgL 0 [s])):=asgs_ok (l:=[s]) (show 1≤LIM by decide) (by simpa using hso) false
  simp only [go_sem,simprocAttr,hR,hkept,hi,hv,iaO_map hs]
  rw [Run_if]
  simp only [go_sem,simprocAttr]
  split
  ·rename_i hk1
   simp only [go_sem,simprocAttr,hR,hkept,hv]
   refine CallPQ (h1 s hm hk1 x f st' rows' B1 B0 (⟨B++[encStm s],none⟩::U) hx hU' h) low0_ptr rfl ?_
   rintro o S' ⟨B1',B0',rfl,hend⟩
   rw [base_up]
   cases hr:stmV c.sh s x st' rows' with
   | pan e =>
    rw [hr] at hend hbv
    obtain ⟨rfl,hp,hl⟩:=hend
    rw [← hbv]
    simp only [go_sem,simprocAttr,hl,hkept]
    exact ⟨rfl,endQ_pan hp hl⟩
   | ok st2 rows2 =>
    rw [hr] at hend hbv
    obtain ⟨rfl,h'⟩:=hend
    have hR':=h'.l
    simp only [go_sem,simprocAttr,hR',hkept,hv,hasg.call]
    exact ⟨_,B1',B0',_,_,_,rfl,⟨rfl,rfl⟩,hB',h',hbv⟩
  ·rename_i hk1
   rw [stmV_eq,if_neg hk1] at hbv
   rw [Run_if]
   simp only [go_sem,simprocAttr]
   split
   ·rename_i hk2
    rw [if_pos hk2] at hbv
    obtain ⟨hb1,hb2⟩:=h2 s hm hk2
    obtain ⟨xv,hxb,hmm,hrs⟩:=h.rs (U:=U)
    obtain ⟨bx,hfx⟩:=frz_x (U:=U) (B0:=B0) (T:=⟨B++[encStm s],none⟩) hR hxb
    have hhas:=has_ok hso.test' (b:=bx) hxl
    have hasb:=fun b=>asgs_ok hso.bn' hso.body' b
    simp only [go_sem,simprocAttr,hR,hkept,hv,hmm,mach,hrs.x.st,hrs.x.tm]
    rw [Callw_sp hhas (by simp only [go_sem,simprocAttr,List.mapM_cons,List.mapM_nil,frz_PSet,hfx]; rfl) rfl]
    simp only [go_sem,simprocAttr]
    rw [Run_if]
    simp only [go_sem,simprocAttr]
    split
    ·rename_i hh
     rw [if_pos hh] at hbv
     simp only [go_sem,simprocAttr,hR,hkept,hv]
     refine CallPQ (hb1 s.bn x f st' rows' B1 B0 (⟨B++[encStm s],none⟩::U) hx hU' h) low0_ptr rfl ?_
     rintro o S' ⟨B1',B0',rfl,hend⟩
     rw [base_up]
     cases hr:bodyV c.sh s.body x st' rows' with
     | pan e =>
      rw [hr] at hend hbv
      obtain ⟨rfl,hp,hl⟩:=hend
      rw [← hbv]
      simp only [go_sem,simprocAttr,hl,hkept]
      exact ⟨rfl,endQ_pan hp hl⟩
     | ok st2 rows2 =>
      rw [hr] at hend hbv
      obtain ⟨rfl,h'⟩:=hend
      have hR':=h'.l
      simp only [go_sem,simprocAttr,hR',hkept,hv,hasg.call]
      exact ⟨_,B1',B0',_,_,_,rfl,⟨rfl,rfl⟩,hB',h',hbv⟩
    ·rename_i hh
     rw [if_neg hh] at hbv
     simp only [go_sem,simprocAttr,hR,hkept,hv,(hasb _).call]
     refine CallPQ (hb2 s.en x _ st' rows' B1 B0 (⟨B++[encStm s],none⟩::U) hx hU' h) low0_ptr rfl ?_
     rintro o S' ⟨B1',B0',rfl,hend⟩
     rw [base_up]
     cases hr:bodyV c.sh s.els x st' rows' with
     | pan e =>
      rw [hr] at hend hbv
      obtain ⟨rfl,hp,hl⟩:=hend
      rw [← hbv]
      simp only [go_sem,simprocAttr,hl,hkept]
      exact ⟨rfl,endQ_pan hp hl⟩
     | ok st2 rows2 =>
      rw [hr] at hend hbv
      obtain ⟨rfl,h'⟩:=hend
      have hR':=h'.l
      simp only [go_sem,simprocAttr,hR',hkept,hv,hasg.call]
      exact ⟨_,B1',B0',_,_,_,rfl,⟨rfl,rfl⟩,hB',h',hbv⟩
   ·rename_i hk2
    rw [if_neg hk2] at hbv
    have hsv:OkX c.sh x.length s.value∧OkRf c.sh x.length s.target:=by
     rw [hx]
     cases hst s hm with
     | loop h=>exact absurd h hk1
     | test h=>exact absurd h hk2
     | asg _ _ he ht=>exact ⟨he,ht⟩
    simp only [go_sem,simprocAttr,hR,hkept,hv]
    refine CallPQ (assign_run (U:=⟨B++[encStm s],none⟩::U) hxl hso hsv.1 hsv.2 f h) low0_ptr rfl ?_
    rintro o S' ⟨B1',B0',rfl,hend⟩
    rw [base_up]
    cases hr:assignV c.sh s x st' rows' with
    | pan e =>
     rw [hr] at hend hbv
     obtain ⟨rfl,hp,hl⟩:=hend
     rw [← hbv]
     simp only [go_sem,simprocAttr,hl,hkept]
     exact ⟨rfl,endQ_pan hp hl⟩
    | ok st2 rows2 =>
     rw [hr] at hend hbv
     obtain ⟨rfl,h'⟩:=hend
     have hR':=h'.l
     simp only [go_sem,simprocAttr,hR',hkept,hv,hasg.call]
     exact ⟨_,B1',B0',_,_,_,rfl,⟨rfl,rfl⟩,hB',h',hbv⟩
 ·rintro F _ ⟨B,B1,B0,f,st',rows',hv,rfl,hB,h,hbv⟩ hkept
  simp only [go_sem,simprocAttr] at hkept hv
  rw [List.drop_length,bodyV] at hbv
  rw [← hbv]
  have hR:=h.l
  simp only [go_sem,simprocAttr,hR,hkept,hv]
  exact endQ_ok h
end Wp
end AM
end Go.Proofs.Ytimfbnojmdnlnaa
end
section
namespace Go.Proofs.Ytimfbnojmdnlnaa
namespace AM
namespace Wp
variable {U:St} {T:Lev} {B1:List (List V)} {B0:St} {L:Nat} {c:Mc} {x:List Int} {st:Int} {rows:List (List Int)}
theorem lenAt_app {l:Nat} {S:St} (h:l < S.length):∀ {U:St},lenAt (U++S) l=lenAt S l
 | []=>rfl
 | T::U=>by
  rw [List.cons_append,lenAt,if_neg (by simp; omega)]
  exact lenAt_app h
theorem addBox_app {l:Nat} {S:St} {v:List V} (h:l < S.length):∀ {U:St},addBox (U++S) l v=U++addBox S l v
 | []=>rfl
 | T::U=>by
  rw [List.cons_append,addBox,if_neg (by simp; omega),addBox_app h]; rfl
theorem lenAt_base (h:B0.length=L):lenAt (T::base U B1 B0) L=blen B1:=by
 subst h
 rw [← base_up]; unfold base; rw [lenAt_app (by simp),lenAt,if_pos rfl]; rfl
theorem addBox_base {v:List V} (h:B0.length=L):addBox (T::base U B1 B0) L v=T::base U (badd B1 v) B0:=by
 subst h
 rw [← base_up]; unfold base; rw [addBox_app (by simp),addBox,if_pos rfl]; rfl
def appB (B1:List (List V)) (xv:V) (x:List Int):List (List V):=badd (match xv with | .bsl _ xi _ _ _ _=>bset B1 xi dead | _=>B1) (ints (x++[0]))
section
variable {E:Env} {ks:List KI} {F:Fr} {Q:Ex→Fr→St→Prop} {bs:List Blk} {d:Option Nat} {B:List (List V)}
theorem noOwn_ints (r:List Int):noOwn (ints r)=true:=by
 have:=calm_ints r
 simp only [calmC,Bool.and_eq_true] at this
 exact this.2
theorem apprx {t u mi:Nat} {k:SK} {xv:V} (hl:B0.length=L) (hx:XB L B1 xv x) (hxl:x.length≤1000) (ht:F t=xv) (hu:F u=.slice k [[.int .i64 0]]) (h0:F 0=.ptr L mi 0) :
  Wk E (.s (.seq ⟨d, .appr 3 1 8 (.t t) (.t u) (some 0),none⟩::bs)) ks F (⟨B,none⟩::base U B1 B0) Q=Wk E (.s bs) ks (putO F d (.bsl L (blen B1) 0 (x.length+1) 1 3)) (⟨B,none⟩::base U (appB B1 xv x) B0) Q:=by
 have hlv:lvOf F (⟨B,none⟩::base U B1 B0) (some 0)=some L:=by
  simp only [lvOf,h0]
  rw [if_pos (by simp [base_len]; omega)]
 have hsrc:srcRows (⟨B,none⟩::base U B1 B0) 1 (.slice k [[.int .i64 0]])=some [[.int .i64 0]]:=rfl
 have hun:∀ {xv:V},strip xv=xv→F t=xv→unown F (.t t)=F:=by
  intro xv h1 h2
  funext i
  simp only [unown,put,h2,h1]
  split
  ·rename_i h; subst h; exact h2.symm
  ·rfl
 show apprK 3 1 8 (F t) (srcRows (⟨B,none⟩::base U B1 B0) 1 (F u)) (lvOf F (⟨B,none⟩::base U B1 B0) (some 0)) d F (unown F (.t t)) (⟨B,none⟩::base U B1 B0) (fun F S=>Wk E (.s bs) ks F S Q)=_
 rw [hun (hx.s (U:=U) hl).st ht,ht,hu,hsrc,hlv]
 rcases hx with ⟨rfl,rfl⟩ | ⟨xi,rest,h4i,rfl,hb⟩
 ·apply propext
  constructor
  ·rintro ⟨_,_,_,h⟩
   rw [lenAt_base hl,addBox_base hl] at h
   exact h
  ·intro h
   refine ⟨⟨by rfl,by decide,by decide,by decide⟩,by simp [lowL,low],by rfl,?_⟩
   rw [lenAt_base hl,addBox_base hl]
   exact h
 ·have h4:((getBox (⟨B,none⟩::base U B1 B0) L xi).bind fun cs=>cutL cs 0 (x.length*1))=some (ints x):=by
   rw [getBox_up1 hl,hb]; simp [cutL,ints]
  have h5:ints x++[[V.int .i64 0]].flatten=ints (x++[0]):=by simp [ints]
  simp only [apprK,h4,h5]
  rw [setBox_up1 hl,lenAt_base hl,addBox_base hl]
  apply propext
  constructor
  ·rintro ⟨_,_,_,_,h⟩
   exact h
  ·intro h
   exact ⟨⟨by simp,by simp,by simp,by decide,by simp only [List.length_singleton]; omega,by simp only [List.length_singleton]; omega⟩,noOwn_ints x,by simp [lowL,low],rfl,h⟩
end
theorem bget_lt {B:List (List V)} {i:Nat} {w:List V} (h:bget B i=some w):i < B.length:=(List.getElem?_eq_some_iff.1 (dz_was h)).1
theorem bget_badd {B:List (List V)} {i:Nat} {v w:List V} (h:bget B i=some w):bget (badd B v) i=some w:=by
 have hlt:=bget_lt h
 simp only [bget,badd] at h ⊢
 rw [List.getElem?_append_left hlt]; exact h
theorem appB_get {xv:V} {i:Nat} {w:List V} (hx:XB L B1 xv x) (h:bget B1 i=some w) (hw:i < 4∨∀ r:List Int,w≠ints r):bget (appB B1 xv x) i=some w:=by
 unfold appB
 refine bget_badd ?_
 rcases hx with ⟨_,rfl⟩ | ⟨xi,rest,h4i,rfl,hb⟩
 ·exact h
 ·simp only
  rw [bget_ne,h]
  rintro rfl
  rw [hb] at h
  rcases hw with hw | hw
  ·omega
  ·exact hw _ (Option.some.inj h).symm
theorem appB_calm {xv:V} (h:calmB B1=true):calmB (appB B1 xv x)=true:=by
 have hd:calmC dead=true:=rfl
 have h1:calmB (match xv with | .bsl _ xi _ _ _ _=>bset B1 xi dead | _=>B1)=true:=by
  split
  ·exact calmB_set h hd
  ·exact h
 unfold appB badd
 rw [calmB_app,h1,calmB_cons,calm_ints]; rfl
theorem appB_new {xv:V}:bget (appB B1 xv x) (blen B1)=some (ints (x++[0])):=by
 have hl:∀ {B:List (List V)},B.length=B1.length→bget (badd B (ints (x++[0]))) (blen B1)=some (ints (x++[0])):=by
  intro B h
  simp only [bget,badd,blen]
  rw [List.getElem?_append_right (by omega),h,Nat.sub_self]
  exact dz_ints _
 unfold appB
 cases xv<;>first | exact hl rfl | (exact hl (by simp [bset]))
theorem ne_ints {v:V} {vs:List V} (h:∀ n,v≠.int .i64 n):∀ r:List Int,v::vs≠ints r:=by
 intro r hr
 cases r with
 | nil=>simp [ints] at hr
 | cons y r=>simp only [ints,List.map_cons,List.cons.injEq] at hr; exact h _ hr.1
end Wp
end AM
end Go.Proofs.Ytimfbnojmdnlnaa
end
section
namespace Go.Proofs.Ytimfbnojmdnlnaa
namespace AM
namespace Wp
variable {U:St} {T:Lev} {B1:List (List V)} {B0:St} {L:Nat} {c:Mc} {x:List Int} {st:Int} {rows:List (List Int)}
theorem PI.len (h:PI B1):4≤blen B1:=bget_lt h.2
theorem cells_ints (c:Mc) (xv:V) (st:Int):∀ r:List Int,c.cells xv st≠ints r:=ne_ints (by intro n h; cases h)
theorem MI.app (h:MI c x st rows B1 B0) {xv:V} (hm:bget B1 c.mi=some (c.cells xv st)) (hx:XB c.L B1 xv x) :
  MI c (x++[0]) st rows (bset (appB B1 xv x) c.mi (c.cells (.bsl c.L (blen B1) 0 (x.length+1) 1 3) st)) B0:=by
 have hm':bget (appB B1 xv x) c.mi=some (c.cells xv st):=appB_get hx hm (.inr (cells_ints c xv st))
 have len:∀ {i:Nat} {w:List V},bget B1 i=some w→w.length≠12→i≠c.mi:=by
  rintro i w hi hl rfl
  rw [hm] at hi
  cases hi
  exact hl rfl
 have get:∀ {i:Nat} {w:List V},bget B1 i=some w→w.length≠12→(i < 4∨∀ r,w≠ints r)→bget (bset (appB B1 xv x) c.mi (c.cells (.bsl c.L (blen B1) 0 (x.length+1) 1 3) st)) i=some w:=by
  intro i w hi hl hr
  rw [bget_ne (len hi hl)]
  exact appB_get hx hi hr
 have hnb:blen B1≠c.mi:=by have:=bget_lt hm; unfold blen; omega
 refine ⟨h.l,⟨_,bget_set hm' dz_mach, .inr ⟨blen B1,[],h.p.len,by simp,?_⟩⟩,get h.u (by simp) (.inr (ne_ints (by intro n h; cases h))),get h.v (by simp) (.inr (ne_ints (by intro n h; cases h))),h.r,h.f,⟨get h.p.1 (by simp) (.inl (by decide)),get h.p.2 (by simp) (.inl (by decide))⟩,calmB_set (appB_calm h.c1) (calm_mach h.r.calm rfl),h.c0⟩
 rw [bget_ne hnb,List.append_nil]
 exact appB_new
theorem MI.setx {w v:Int} (h:MI c (x++[w]) st rows B1 B0):∃ (xi:Nat) (rest:List Int),bget B1 c.mi=some (c.cells (.bsl c.L xi 0 (x.length+1) 1 3) st)∧bget B1 xi=some (ints ((x++[w])++rest)) ∧
  setAt (ints ((x++[w])++rest)) x.length [.int .i64 v]=ints ((x++[v])++rest)∧MI c (x++[v]) st rows (bset B1 xi (ints ((x++[v])++rest))) B0:=by
 obtain ⟨xv,hm,hx⟩:=h.m
 rcases hx with ⟨h0,_⟩ | ⟨xi,rest,h4,rfl,hb⟩
 ·simp at h0
 ·rw [show (x++[w]).length=x.length+1 from by simp] at hm
  have e1:setAt (ints ((x++[w])++rest)) x.length [.int .i64 v]=ints ((x++[v])++rest):=by
   rw [ints_setAt (by simp)]
   congr 1
   simp [List.set_append]
  have ne:∀ {i:Nat} {u:List V},bget B1 i=some u→(i < 4∨∀ r,u≠ints r)→i≠xi:=by
   rintro i u hi hr rfl
   rcases hr with hr | hr
   ·omega
   ·rw [hb] at hi
    exact hr _ (Option.some.inj hi).symm
  have get:∀ {i:Nat} {u:List V},bget B1 i=some u→(i < 4∨∀ r,u≠ints r)→bget (bset B1 xi (ints ((x++[v])++rest))) i=some u:=by
   intro i u hi hr
   rw [bget_ne (ne hi hr)]; exact hi
  refine ⟨xi,rest,hm,hb,e1,h.l,⟨_,get hm (.inr (cells_ints c _ st)), .inr ⟨xi,rest,h4,by simp,bget_set hb (dz_ints _)⟩⟩,get h.u (.inr (ne_ints (by intro n h; cases h))),get h.v (.inr (ne_ints (by intro n h; cases h))),h.r,h.f,⟨get h.p.1 (.inl (by decide)),get h.p.2 (.inl (by decide))⟩,calmB_set h.c1 (calm_ints _),h.c0⟩
theorem MI.cutx {w:Int} (h:MI c (x++[w]) st rows B1 B0):∃ xi:Nat,bget B1 c.mi=some (c.cells (.bsl c.L xi 0 (x.length+1) 1 3) st)∧MI c x st rows (bset B1 c.mi (c.cells (.bsl c.L xi 0 x.length 1 3) st)) B0:=by
 obtain ⟨xv,hm,hx⟩:=h.m
 rcases hx with ⟨h0,_⟩ | ⟨xi,rest,h4,rfl,hb⟩
 ·simp at h0
 ·rw [show (x++[w]).length=x.length+1 from by simp] at hm
  refine ⟨xi,hm,h.mset hm (.inr ⟨xi,w::rest,h4,rfl,?_⟩)⟩
  rw [bget_ne,hb]
  ·simp
  ·rintro rfl
   rw [hm] at hb
   exact cells_ints c _ st _ (Option.some.inj hb)
theorem boundV_rng {up:Bool} {b:Bound} {n:Int} (h:boundV up x b=some n):-4294967296≤n∧n≤4294967296:=by
 unfold boundV at h
 split at h
 ·cases h
 ·cases h; omega
theorem loop_run {nv:Nat} (hnv:nv+1≤1000) {s:Stm} (hso:OkStm s) (hk:s.kind=1) (hlo:okBn nv s.low) (hhi:okBn nv s.high) (hst:1≤s.step∧s.step≤64) (hbq:BodyQ c (nv+1) s.body):LoopQ c nv s:=by
 intro x first st rows B1 B0 U hx hU h
 subst hx
 have hxl:x.length≤LIM:=Nat.le_trans (show x.length≤1000 by omega) (by decide)
 obtain ⟨xv,hxb,hm,hrs⟩:=h.rs (U:=U)
 have hR0:=h.l
 have hcalm:calmS (⟨[encStm s],none⟩::base U B1 B0)=true:=by simp only [go_sem,simprocAttr,calm_base,hU,h.c1,h.c0]
 have hlow:=bound_run true (S:=⟨[encStm s],none⟩::base U B1 B0) (b:=s.low) (by rw [getBox_up1 h.l]; exact hm) hrs.x.up hlo hxl hcalm
 have hhigh:=bound_run false (S:=⟨[encStm s],none⟩::base U B1 B0) (b:=s.high) (by rw [getBox_up1 h.l]; exact hm) hrs.x.up hhi hxl hcalm
 refine CallQ.fn rfl rfl rfl ?_
 rw [stmV_eq,if_pos hk]
 simp only [a122,c122,go_sem,simprocAttr,hR0]
 rw [CallP hlow low0_ptr rfl]
 cases hlv:boundV true x s.low with
 | none =>
  simp only [outN,go_sem,simprocAttr,hR0]
  exact ⟨rfl,endQ_pan h.p ⟨h.l,h.c0⟩⟩
 | some lo =>
  simp only [outN,go_sem,simprocAttr,hR0]
  rw [CallP hhigh low0_ptr rfl]
  cases hhv:boundV false x s.high with
  | none =>
   simp only [outN,go_sem,simprocAttr,hR0]
   exact ⟨rfl,endQ_pan h.p ⟨h.l,h.c0⟩⟩
  | some hi =>
   have r1:=boundV_rng hlv
   have r2:=boundV_rng hhv
   have hio:isOwn xv=false:=by rcases hxb with ⟨_,rfl⟩ | ⟨xi,rest,_,rfl,_⟩<;>rfl
   simp only [outN,go_sem,simprocAttr,hR0,hm,mach,hio,hrs.x.st,hrs.x.tm]
   rw [apprx (k:=.own 3) (mi:=c.mi) h.l hxb (by omega) sx sx sx]
   have hma:=appB_get hxb hm (.inr (cells_ints c xv st))
   have hM:=h.app hm hxb
   simp only [Mc.cells,mach] at hM
   simp only [go_sem,simprocAttr,hR0,hma,mach,setAt_at0,Nat.lt_succ_self]
   revert hM
   generalize bset (appB B1 xv x) c.mi [.slice (nk c.b) (c.sh.map encShape),c.mv, .int .i64 c.np, .bsl c.L (blen B1) 0 (x.length+1) 1 3, .int .i64 st, .bool false, .func (.func 92) [.ptr c.L 1 0, .ptr c.L c.vi 0], .func (.func 116) [], .func (.func 118) [], .func (.func 119) [], .func (.func 120) [], .func (.func 121) []]=B1a
   intro hM
   have hwr:IntKind.i64.wrap (((x.length+1:Nat):Int) - 1)=(x.length:Int):=by rw [wrap64 (by omega) (by omega)]; omega
   have hUs:calmS (⟨[encStm s],none⟩::U)=true:=by simp only [go_sem,simprocAttr,hU]
   refine Run_loop [0,2,4,7] (fun m F S=>∃ (v st':Int) (rows':List (List Int)) (w:Int) (B1:List (List V)) (B0:St),F 8=.int .i64 v∧S=⟨[encStm s],none⟩::base U B1 B0∧MI c (x++[w]) st' rows' B1 B0∧hi - v+1≤(m:Int)∧v≤4294967360∧-4294967296≤v ∧
    loopI (fun v st rows=>bodyV c.sh s.body (x++[v]) st rows) s.step hi m v st' rows'=loopI (fun v st rows=>bodyV c.sh s.body (x++[v]) st rows) s.step hi (hi - lo+1).toNat lo st rows) (hi - lo+1).toNat rfl sx ⟨lo,st,rows,0,B1a,B0,by simp only [go_sem,simprocAttr],rfl,hM,by omega,by omega,by omega,rfl⟩ ?_
   rintro m F _ ⟨v,st',rows',w,B1,B0,hv8,rfl,h,hmv,hv1,hv2,hL⟩ hkept
   have hR:=h.l
   simp only [go_sem,simprocAttr] at hkept
   simp only [go_sem,simprocAttr,hR,hkept,hv8]
   rw [Run_if]
   simp only [go_sem,simprocAttr]
   split
   ·rename_i hle
    obtain ⟨m,rfl⟩:∃ m',m=m'+1:=⟨m - 1,by omega⟩
    rw [loopI,if_pos hle] at hL
    simp only [go_sem,simprocAttr,hR,hkept]
    refine CallPQ (step_run (U:=⟨[encStm s],none⟩::U) h) low0_ptr rfl ?_
    rintro o S' ⟨B1',B0',rfl,hend⟩
    rw [base_up]
    cases hsv:stepV st' rows' with
    | pan e =>
     rw [hsv] at hend hL
     obtain ⟨rfl,hp,hpl⟩:=hend
     simp only [go_sem,simprocAttr,hpl,hkept,hv8]
     exact ⟨rfl,by rw [← hL]; exact endQ_pan hp hpl⟩
    | ok st2 rows2 =>
     rw [hsv] at hend hL
     obtain ⟨rfl,h'⟩:=hend
     have hR':=h'.l
     obtain ⟨xi,rest,x1,x2,x3,hM2⟩:=h'.setx (v:=v)
     have hia:∀ kk:IntKind,iaO 1 (.bsl c.L xi 0 (x.length+1) 1 3) (.int kk (x.length:Int))=some (.ptr c.L xi x.length):=fun kk=>by
      rw [iaO_bsl (by omega)]; simp
     have hle3:x.length+1≤(ints ((x++[w])++rest)).length:=by rw [ints_len]; simp
     have hrun:=hbq s.bn (x++[v]) first st2 rows2 _ B0' (⟨[encStm s],none⟩::U) (by simp) hUs hM2
     rw [base_up] at hrun
     simp only [go_sem,simprocAttr,hR',hkept,hv8,x1,Mc.cells,mach,hwr,hia,x2,x3,hle3]
     have x3':setAt (ints (x++w::rest)) x.length [.int .i64 v]=ints ((x++[v])++rest):=by rw [← x3]; simp
     rw [x3']
     refine ⟨by rw [ints_len]; simp,CallPQ hrun low0_ptr rfl ?_⟩
     rintro o S' ⟨B1b,B0b,rfl,hend⟩
     rw [base_up]
     cases hbv:bodyV c.sh s.body (x++[v]) st2 rows2 with
     | pan e =>
      simp only [hbv] at hend hL
      obtain ⟨rfl,hp,hpl⟩:=hend
      simp only [go_sem,simprocAttr,hpl,hkept,hv8]
      exact ⟨rfl,by rw [← hL]; exact endQ_pan hp hpl⟩
     | ok st3 rows3 =>
      simp only [hbv] at hend hL
      obtain ⟨rfl,h3⟩:=hend
      have hR3:=h3.l
      have hw2:wi (v+s.step)=v+s.step:=wi_id (by omega) (by omega)
      have hw3:IntKind.i64.wrap (v+s.step)=v+s.step:=hw2
      simp only [go_sem,simprocAttr,hR3,hkept,hv8,hw3]
      rw [hw2] at hL
      exact ⟨m,by omega,v+s.step,st3,rows3,v,B1b,B0b,rfl,rfl,h3,by omega,by omega,by omega,hL⟩
   ·rename_i hle
    have hL':Rs.ok st' rows'=loopI (fun v st rows=>bodyV c.sh s.body (x++[v]) st rows) s.step hi (hi - lo+1).toNat lo st rows:=by
     rw [← hL]
     cases m with
     | zero=>rfl
     | succ m=>rw [loopI,if_neg hle]
    obtain ⟨xi,x1,hM2⟩:=h.cutx
    have hcut:cutO 1 (.bsl c.L xi 0 (x.length+1) 1 3) none (some (.int .i64 (x.length:Int)))=some (.bsl c.L xi 0 x.length 1 3):=by
     simp [cutO,ondH,ondO,natIn]
     rw [if_pos (by omega)]; rfl
    simp only [go_sem,simprocAttr,hR,hkept,hv8,x1,Mc.cells,mach,hwr,hcut,setAt_at0,Nat.lt_succ_self]
    rw [← hL']
    exact endQ_ok hM2
end Wp
end AM
end Go.Proofs.Ytimfbnojmdnlnaa
end
section
namespace Go.Proofs.Ytimfbnojmdnlnaa
namespace AM
namespace Wp
variable {U:St} {T:Lev} {B1:List (List V)} {B0:St} {L:Nat} {c:Mc} {x:List Int} {st:Int} {rows:List (List Int)}
theorem stmq:∀ s:Stm,OkStm s→∀ nv,nv≤1000→OkSt c.sh nv s→(s.kind=1→LoopQ c nv s)∧(s.kind=2→BodyQ c nv s.body∧BodyQ c nv s.els):=by
 refine Stm.ind fun s ihb ihe hs nv hnv hok=>?_
 have body:∀ n,n≤1000→(∀ t∈s.body,OkSt c.sh n t)→BodyQ c n s.body:=fun n hn h=>body_list hn hs.bn' hs.body' h (fun t ht hk=>(ihb t ht (hs.body' t ht) n hn (h t ht)).1 hk) (fun t ht hk=>(ihb t ht (hs.body' t ht) n hn (h t ht)).2 hk)
 have els:∀ n,n≤1000→(∀ t∈s.els,OkSt c.sh n t)→BodyQ c n s.els:=fun n hn h=>body_list hn hs.en' hs.els' h (fun t ht hk=>(ihe t ht (hs.els' t ht) n hn (h t ht)).1 hk) (fun t ht hk=>(ihe t ht (hs.els' t ht) n hn (h t ht)).2 hk)
 cases hok with
 | loop h hn hl hh hst hb =>
  exact ⟨fun _=>loop_run hn hs h hl hh hst (body _ hn hb),fun h2=>by omega⟩
 | test h hb he=>exact ⟨fun h1=>by omega,fun _=>⟨body _ hnv hb,els _ hnv he⟩⟩
 | asg h1 h2 _ _=>exact ⟨fun h=>absurd h h1,fun h=>absurd h h2⟩
theorem bodyq {l:List Stm} {nv:Nat} (hnv:nv≤1000) (hl:l.length≤LIM) (hs:∀ s∈l,OkStm s) (hok:∀ s∈l,OkSt c.sh nv s):BodyQ c nv l :=
 body_list hnv hl hs hok (fun s h=>(stmq s (hs s h) nv hnv (hok s h)).1) (fun s h=>(stmq s (hs s h) nv hnv (hok s h)).2)
def cloneV3 (b:Bool) (xs:List (List V)):V:=if b then .slice .nil [] else .slice (.own 3) xs
theorem clone3_ok (b:Bool) (l:List Int) (hl:l.length≤1000000000):Sp theEnv 76 [.slice (nk b) (l.map encI)] (cloneV3 b (l.map encI)):=by
 refine Sp.fn rfl rfl rfl sx (by cases b<;>simp only [cloneV3,go_sem,simprocAttr,implies_true]) fun S=>?_
 simp only [a76,c76,go_sem,simprocAttr]
 cases b with
 | true=>simp only [go_sem,simprocAttr,cloneV3]
 | false=>simp only [go_sem,simprocAttr,appO_own (e:=3) (b:=8) (k:=.shut) (xs:=[]) (lens_I l) (by simp; omega) (by simp; omega),cloneV3]
section
variable {E:Env} {ks:List KI} {F:Fr} {S R:St} {Q:Ex→Fr→St→Prop} {bs:List Blk} {d:Option Nat} {B:List (List V)} {lp:Option Lp}
theorem flats_ints (r:List Int):flats (r.map encI).flatten=true:=by
 rw [ints_flat]
 simp [flats,ints,AM.flat]
theorem Callr_clone {f:Nat} {x:Opd} {b:Bool} {r:List Int} (h:Sp E f [.slice (nk b) (r.map encI)] (cloneV3 b (r.map encI))) (hx:strip (evO F x)=.slice (nk b) (r.map encI)) :
  Wk E (.s (.seq ⟨d, .callr f 3 1 [x],none⟩::bs)) ks F (⟨B,lp⟩::R) Q=Wk E (.s bs) ks (putO F d (if b then .slice .nil [] else .bsl R.length (blen B) 0 r.length 1 3)) (⟨if b then B else badd B (ints r),lp⟩::R) Q:=by
 show callrK E f 3 1 ([x].map fun x=>strip (evO F x)) d F (⟨B,lp⟩::R) (fun F S=>Wk E (.s bs) ks F S Q)=_
 simp only [List.map_cons,List.map_nil,hx,callrK,h.a,true_and]
 rw [CallIs.q (h.s [])]
 cases b with
 | true=>rfl
 | false =>
  simp only [cloneV3,Bool.false_eq_true,if_false,callrP,flats_ints,true_and,List.length_map]
  rw [ints_flat]
  simp only [blen,badd]
  apply propext
  constructor
  ·intro h; exact h.2
  ·intro h; exact ⟨by decide,h⟩
end
theorem plain_ok:Sp theEnv 91 [] (.agg [.func (.func 116) [], .func (.func 118) [], .func (.func 119) [], .func (.func 120) [], .func (.func 121) []]):=by
 refine Sp.fn rfl rfl rfl sx sy fun S=>?_; simp only [a91,c91,go_sem,simprocAttr]
 exact ⟨_,rfl,rfl,rfl,rfl⟩
theorem MB.cp {mv:V} (h:MB B0 mv rows):cp mv=some mv∧strip mv=mv∧tame mv=true∧cellsOf mv=some [mv]:=by
 rcases h with ⟨_,rfl⟩ | ⟨oi,cs,rfl,_⟩<;>exact ⟨rfl,rfl,rfl,rfl⟩
def ExecP (L:Nat) (mv:V):Rs→Out→St→Prop
 | .ok st rows,o,S=>o=.ret (.tup [.int .i64 st, .int .i64 0])∧MB S mv rows∧S.length=L∧calmS S=true
 | .pan e,o,S=>o=.ret (.tup [.int .i64 0, .int .i64 e])∧S.length=L∧calmS S=true
theorem exec_pre {p:Prg} {b bs:Bool} {ps:List Int} (hz:b=true→ps=[]) (hpl:ps.length≤1000) {sh:List Shape} {mv:V} (hr:MB B0 mv rows) (hf:Fit sh rows) (hc0:calmS B0=true) :
  ∃ (c:Mc) (B1:List (List V)),c.L=B0.length∧c.sh=sh∧c.mv=mv∧MI c ps 0 rows B1 B0∧bget B1 0=some (encPrg p)∧∃ (F:Fr) (K:Nat),(∀ j,K≤j→runL theMeth (callN theEnv j) [pre570,pre571,pre572] (args0 [.agg (encPrg p), .slice (nk b) (ps.map encI),mv, .slice (nk bs) (sh.map encShape), .bool false, .func (.func 58) []]) (⟨[],none⟩::B0)=some (F,⟨B1,none⟩::B0)) ∧
   F 6=.ptr B0.length 0 0∧F 12=.ptr B0.length 2 0∧F 13=.ptr B0.length 3 0∧F 14=.ptr B0.length c.vi 0:=by
 obtain ⟨hcp,hst,htm,hcel⟩:=hr.cp
 obtain ⟨⟨e1,F1,S1⟩,⟨K1,k1⟩,q1⟩:=EvQ_flat (n:=60) (EvQ_run (E:=theEnv) (c:=pre570) (F:=args0 [.agg (encPrg p), .slice (nk b) (ps.map encI),mv, .slice (nk bs) (sh.map encShape), .bool false, .func (.func 58) []]) (S:=⟨[],none⟩::B0)
  (Q:=fun e F S'=>e=.nrm∧(F 1=.slice (nk b) (ps.map encI)∧F 2=mv∧F 3=.slice (nk bs) (sh.map encShape)∧F 4=.bool false∧F 6=.ptr B0.length 0 0∧F 11=.ptr B0.length 1 0∧F 12=.ptr B0.length 2 0∧F 13=.ptr B0.length 3 0)∧S'=⟨[encPrg p,[.func (.func 58) []],[.int .i64 0],[.int .i64 0]],none⟩::B0) (by
   simp only [pre570,go_sem,simprocAttr])) rfl (by decide)
 simp only at q1
 obtain ⟨rfl,f1,rfl⟩:=q1
 cases b with
 | true =>
  obtain rfl:ps=[]:=hz rfl
  obtain ⟨⟨e2,F2,S2⟩,⟨K2,k2⟩,q2⟩:=EvQ_flat (n:=60) (EvQ_run (E:=theEnv) (c:=pre571) (F:=F1) (S:=⟨[encPrg p,[.func (.func 58) []],[.int .i64 0],[.int .i64 0]],none⟩::B0)
   (Q:=fun e F S'=>e=.nrm∧(F 6=.ptr B0.length 0 0∧F 11=.ptr B0.length 1 0∧F 12=.ptr B0.length 2 0∧F 13=.ptr B0.length 3 0∧F 14=.ptr B0.length 5 0)∧S'=⟨[encPrg p,[.func (.func 58) []],[.int .i64 0],[.int .i64 0],[.slice (nk bs) (sh.map encShape),mv, .int .i64 (([]:List Int).length:Int), .slice .nil [], .int .i64 0, .bool false, .nilf, .func (.func 116) [], .func (.func 118) [], .func (.func 119) [], .func (.func 120) [], .func (.func 121) []],[.ptr B0.length 4 0]],none⟩::B0) (by
    simp only [pre571,go_sem,simprocAttr,f1,hcp,hst,htm]
    rw [Callr_clone (clone3_ok true [] (by simp)) (by simp only [go_sem,simprocAttr,f1])]
    simp only [go_sem,simprocAttr,f1,hcp,hst,htm,hcel,plain_ok.call,Nat.lt_succ_self])) rfl (by decide)
  simp only at q2
  obtain ⟨rfl,f2,rfl⟩:=q2
  obtain ⟨⟨e3,F3,S3⟩,⟨K3,k3⟩,q3⟩:=EvQ_flat (n:=60) (EvQ_run (E:=theEnv) (c:=pre572) (F:=F2) (S:=⟨[encPrg p,[.func (.func 58) []],[.int .i64 0],[.int .i64 0],[.slice (nk bs) (sh.map encShape),mv, .int .i64 (([]:List Int).length:Int), .slice .nil [], .int .i64 0, .bool false, .nilf, .func (.func 116) [], .func (.func 118) [], .func (.func 119) [], .func (.func 120) [], .func (.func 121) []],[.ptr B0.length 4 0]],none⟩::B0)
   (Q:=fun e F S'=>e=.nrm∧(F 6=.ptr B0.length 0 0∧F 12=.ptr B0.length 2 0∧F 13=.ptr B0.length 3 0∧F 14=.ptr B0.length 5 0)∧S'=⟨[encPrg p,[.func (.func 58) []],[.int .i64 0],[.int .i64 0],[.slice (nk bs) (sh.map encShape),mv, .int .i64 (([]:List Int).length:Int), .slice .nil [], .int .i64 0, .bool false, .func (.func 92) [.ptr B0.length 1 0, .ptr B0.length 5 0], .func (.func 116) [], .func (.func 118) [], .func (.func 119) [], .func (.func 120) [], .func (.func 121) []],[.ptr B0.length 4 0]],none⟩::B0) (by
    simp only [pre572,go_sem,simprocAttr,f2,Nat.lt_succ_self])) rfl (by decide)
  simp only at q3
  obtain ⟨rfl,f3,rfl⟩:=q3
  refine ⟨⟨B0.length,sh,bs,mv,0,5,4⟩,[encPrg p,[.func (.func 58) []],[.int .i64 0],[.int .i64 0],[.slice (nk bs) (sh.map encShape),mv, .int .i64 (([]:List Int).length:Int), .slice .nil [], .int .i64 0, .bool false, .func (.func 92) [.ptr B0.length 1 0, .ptr B0.length 5 0], .func (.func 116) [], .func (.func 118) [], .func (.func 119) [], .func (.func 120) [], .func (.func 121) []],[.ptr B0.length 4 0]],rfl,rfl,rfl,⟨rfl,⟨.slice .nil [],rfl, .inl ⟨rfl,rfl⟩⟩,rfl,rfl,hr,hf,⟨rfl,rfl⟩,?_,hc0⟩,rfl,F3,max K1 (max K2 K3),fun j hj=>?_,f3⟩
  ·have hcm:=calm_mach (L:=B0.length) (b:=bs) (sh:=sh) (np:=0) (st:=0) (vi:=5) hr.calm (xv:=.slice .nil []) rfl
   unfold mach at hcm
   simp only [go_sem,simprocAttr,calmC_Prg,calm_ints] at hcm ⊢
   exact hcm
  ·have hm:theEnv.meth=theMeth:=rfl
   rw [hm] at k1 k2 k3
   simp only [runL,k1 j (by omega),k2 j (by omega),k3 j (by omega)]
 | false =>
  skip
  obtain ⟨⟨e2,F2,S2⟩,⟨K2,k2⟩,q2⟩:=EvQ_flat (n:=60) (EvQ_run (E:=theEnv) (c:=pre571) (F:=F1) (S:=⟨[encPrg p,[.func (.func 58) []],[.int .i64 0],[.int .i64 0]],none⟩::B0)
   (Q:=fun e F S'=>e=.nrm∧(F 6=.ptr B0.length 0 0∧F 11=.ptr B0.length 1 0∧F 12=.ptr B0.length 2 0∧F 13=.ptr B0.length 3 0∧F 14=.ptr B0.length 6 0)∧S'=⟨[encPrg p,[.func (.func 58) []],[.int .i64 0],[.int .i64 0],ints ps,[.slice (nk bs) (sh.map encShape),mv, .int .i64 (ps.length:Int), .bsl B0.length 4 0 ps.length 1 3, .int .i64 0, .bool false, .nilf, .func (.func 116) [], .func (.func 118) [], .func (.func 119) [], .func (.func 120) [], .func (.func 121) []],[.ptr B0.length 5 0]],none⟩::B0) (by
    simp only [pre571,go_sem,simprocAttr,f1,hcp,hst,htm]
    rw [Callr_clone (clone3_ok false ps (by omega)) (by simp only [go_sem,simprocAttr,f1])]
    simp only [go_sem,simprocAttr,f1,hcp,hst,htm,hcel,plain_ok.call,Nat.lt_succ_self])) rfl (by decide)
  simp only at q2
  obtain ⟨rfl,f2,rfl⟩:=q2
  obtain ⟨⟨e3,F3,S3⟩,⟨K3,k3⟩,q3⟩:=EvQ_flat (n:=60) (EvQ_run (E:=theEnv) (c:=pre572) (F:=F2) (S:=⟨[encPrg p,[.func (.func 58) []],[.int .i64 0],[.int .i64 0],ints ps,[.slice (nk bs) (sh.map encShape),mv, .int .i64 (ps.length:Int), .bsl B0.length 4 0 ps.length 1 3, .int .i64 0, .bool false, .nilf, .func (.func 116) [], .func (.func 118) [], .func (.func 119) [], .func (.func 120) [], .func (.func 121) []],[.ptr B0.length 5 0]],none⟩::B0)
   (Q:=fun e F S'=>e=.nrm∧(F 6=.ptr B0.length 0 0∧F 12=.ptr B0.length 2 0∧F 13=.ptr B0.length 3 0∧F 14=.ptr B0.length 6 0)∧S'=⟨[encPrg p,[.func (.func 58) []],[.int .i64 0],[.int .i64 0],ints ps,[.slice (nk bs) (sh.map encShape),mv, .int .i64 (ps.length:Int), .bsl B0.length 4 0 ps.length 1 3, .int .i64 0, .bool false, .func (.func 92) [.ptr B0.length 1 0, .ptr B0.length 6 0], .func (.func 116) [], .func (.func 118) [], .func (.func 119) [], .func (.func 120) [], .func (.func 121) []],[.ptr B0.length 5 0]],none⟩::B0) (by
    simp only [pre572,go_sem,simprocAttr,f2,Nat.lt_succ_self])) rfl (by decide)
  simp only at q3
  obtain ⟨rfl,f3,rfl⟩:=q3
  refine ⟨⟨B0.length,sh,bs,mv,ps.length,6,5⟩,[encPrg p,[.func (.func 58) []],[.int .i64 0],[.int .i64 0],ints ps,[.slice (nk bs) (sh.map encShape),mv, .int .i64 (ps.length:Int), .bsl B0.length 4 0 ps.length 1 3, .int .i64 0, .bool false, .func (.func 92) [.ptr B0.length 1 0, .ptr B0.length 6 0], .func (.func 116) [], .func (.func 118) [], .func (.func 119) [], .func (.func 120) [], .func (.func 121) []],[.ptr B0.length 5 0]],rfl,rfl,rfl,⟨rfl,⟨.bsl B0.length 4 0 ps.length 1 3,rfl, .inr ⟨4,[],by decide,rfl,by rw [List.append_nil]; exact dz_ints ps⟩⟩,rfl,rfl,hr,hf,⟨rfl,rfl⟩,?_,hc0⟩,rfl,F3,max K1 (max K2 K3),fun j hj=>?_,f3⟩
  ·have hcm:=calm_mach (L:=B0.length) (b:=bs) (sh:=sh) (np:=ps.length) (st:=0) (vi:=6) hr.calm (xv:=.bsl B0.length 4 0 ps.length 1 3) rfl
   unfold mach at hcm
   simp only [go_sem,simprocAttr,calmC_Prg,calm_ints] at hcm ⊢
   exact hcm
  ·have hm:theEnv.meth=theMeth:=rfl
   rw [hm] at k1 k2 k3
   simp only [runL,k1 j (by omega),k2 j (by omega),k3 j (by omega)]
theorem exec_run {p:Prg} (hp:OkPrg p) {b bs:Bool} {ps:List Int} (hz:b=true→ps=[]) (hpl:ps.length≤1000) {sh:List Shape} {mv:V} (hr:MB B0 mv rows) (hf:Fit sh rows) (hc0:calmS B0=true) (hbody:∀ t∈p.body,OkSt sh ps.length t) :
  CallQ theEnv (.fn 57) [.agg (encPrg p), .slice (nk b) (ps.map encI),mv, .slice (nk bs) (sh.map encShape), .bool false, .func (.func 58) []] B0 (ExecP B0.length mv (bodyV sh p.body ps 0 rows)):=by
 obtain ⟨c,B1,hL,rfl,rfl,hM,hb0,F,K,hrun,f6,f12,f13,f14⟩:=exec_pre (p:=p) (bs:=bs) hz hpl hr hf hc0
 have hx:theEnv.ext 57=some (guardH2 theMeth 6 [pre570,pre571,pre572] post57 12 13 29 170):=rfl
 have hq:=bodyq (c:=c) hpl hp.bl hp.bs hbody p.bn ps 0 0 rows B1 B0 [] rfl rfl hM
 obtain ⟨⟨e,F2,S2⟩,⟨K2,k2⟩,q2⟩:=EvQ_flat (n:=60) (EvQ_run (E:=theEnv) (c:=post57) (F:=put F 29 .undef) (S:=⟨B1,none⟩::B0)
  (Q:=fun e F S'=>F 12=.ptr B0.length 2 0∧F 13=.ptr B0.length 3 0∧∃ (B1':List (List V)) (B0':St),S'=⟨B1',none⟩::B0'∧B0'.length=B0.length∧calmS B0'=true ∧
   match bodyV c.sh p.body ps 0 rows with
   | .ok st rows=>e=.ret∧bget B1' 2=some [.int .i64 st]∧bget B1' 3=some [.int .i64 0]∧MB B0' c.mv rows
   | .pan e'=>e=.pan (ended e')∧PI B1') (by
   simp only [post57,go_sem,simprocAttr,f6,f12,f13,f14,hb0,hM.v,hL]
   have hq':CallQ theEnv (.fn 94) [.ptr B0.length c.mi 0, .slice (nk p.bn) (p.body.map encStm), .int .i64 0] (⟨B1,none⟩::B0) (EndQ c ps [] (bodyV c.sh p.body ps 0 rows)):=by rw [hL] at hq; exact hq
   refine CallPQ hq' low0_ptr rfl ?_
   rintro o S' ⟨B1',B0',rfl,hend⟩
   rw [show base [] B1' B0'=⟨B1',none⟩::B0' from rfl]
   cases hbv:bodyV c.sh p.body ps 0 rows with
   | ok st2 rows2 =>
    rw [hbv] at hend
    obtain ⟨rfl,h'⟩:=hend
    have hl2:B0'.length=B0.length:=h'.l.trans hL
    obtain ⟨xv,hmm,_⟩:=h'.m
    have hv:=h'.v
    rw [hL, ← hl2] at hmm hv
    rw [← hl2] at f12 f13 f14 ⊢
    have h23:∀ w,bget (bset B1' 2 w) 3=some [.int .i64 0]:=fun w=>by rw [bget_ne (by decide)]; exact h'.p.2
    simp only [go_sem,simprocAttr,f12,f13,f14,hv,hmm,mach,h'.p.1,h23,setAt_at0]
    refine ⟨_,_,⟨rfl,rfl⟩,rfl,h'.c0,?_,?_,h'.r⟩
    ·rw [bget_ne (by decide)]; exact bget_set h'.p.1 rfl
    ·exact bget_set (h23 _) rfl
   | pan e' =>
    rw [hbv] at hend
    obtain ⟨rfl,hp1,hl1,hc1⟩:=hend
    simp only [go_sem,simprocAttr,f12,f13]
    exact ⟨_,_,⟨rfl,rfl⟩,hl1.trans hL,hc1,hp1⟩)) rfl (by decide)
 simp only at q2
 obtain ⟨g12,g13,B1',B0',rfl,hl',hc',q3⟩:=q2
 have hm:theEnv.meth=theMeth:=rfl
 rw [hm] at k2
 cases hbv:bodyV c.sh p.body ps 0 rows with
 | ok st rows' =>
  rw [hbv] at q3
  obtain ⟨rfl,h2,h3,h4⟩:=q3
  refine ⟨.ret (.tup [.int .i64 st, .int .i64 0]),B0',⟨max K K2+1,fun j hj=>?_⟩,rfl,h4,hl',hc'⟩
  obtain ⟨j,rfl⟩:∃ m,j=m+1:=⟨j - 1,by omega⟩
  simp only [callN,callBody,hx,guardH2,List.length_cons,List.length_nil,if_true]
  rw [hrun j (by omega)]
  simp only [k2 j (by omega)]
  rw [f12,f13,g12,g13]
  have o2:oneBox ⟨B1',none⟩ 2=some (.int .i64 st):=by simp only [oneBox,dz_was h2]; rfl
  have o3:oneBox ⟨B1',none⟩ 3=some (.int .i64 0):=by simp only [oneBox,dz_was h3]; rfl
  simp only [and_self,if_true,o2,o3,Option.bind_some,Option.map_some]
 | pan e' =>
  rw [hbv] at q3
  obtain ⟨rfl,h2,h3⟩:=q3
  refine ⟨.ret (.tup [.int .i64 0, .int .i64 e']),B0',⟨max K K2+1,fun j hj=>?_⟩,rfl,hl',hc'⟩
  obtain ⟨j,rfl⟩:∃ m,j=m+1:=⟨j - 1,by omega⟩
  simp only [callN,callBody,hx,guardH2,List.length_cons,List.length_nil,if_true]
  rw [hrun j (by omega)]
  simp only [k2 j (by omega),ended]
  rw [f12,f13,g12,g13]
  have o2:oneBox ⟨B1',none⟩ 2=some (.int .i64 0):=by simp only [oneBox,dz_was h2]; rfl
  have o3:oneBox ⟨B1',none⟩ 3=some (.int .i64 0):=by simp only [oneBox,dz_was h3]; rfl
  simp [o2,o3]
end Wp
end AM
end Go.Proofs.Ytimfbnojmdnlnaa
end
section
namespace Go.Proofs.Ytimfbnojmdnlnaa
namespace AM
namespace Wp
theorem vOverL_len {n:Nat} {l:Lin} (h:vOverL n l=true):l.c.length=n:=by
 simp only [vOverL,Bool.and_eq_true,decide_eq_true_eq] at h; omega
theorem vCell_ok {p:Prg} {n:Nat} {r:Ref} {ps:List Int} (h:vCell p n r=true):OkRf (shapesOf ps p.arrays) n r:=by
 simp only [vCell,Bool.and_eq_true,decide_eq_true_eq] at h
 obtain ⟨h0,h1⟩:=h
 cases ha:p.arrays[r.a.toNat]? with
 | none=>rw [ha] at h1; cases h1
 | some A =>
  rw [ha] at h1
  simp only [Bool.and_eq_true,decide_eq_true_eq] at h1
  refine ⟨r.a.toNat,shapeOf ps A,by omega,by simp [shapesOf,ha],by simp [shapeOf,sizesOf,h1.1],fun l hl=>?_⟩
  exact Nat.le_of_eq (vOverL_len (List.all_eq_true.1 h1.2 l hl))
theorem node_ok' {p:Prg} {n:Nat} {ps:List Int}:∀ (x:Exp) (m:Int),(chkNode p n x m).1=true→OkX (shapesOf ps p.arrays) n x:=by
 refine Exp.ind fun x ih m h=>?_
 by_cases hh:headOk x (m+1)=true
 ·by_cases h3:x.op=0∨x.op=1∨x.op=2
  ·have hl:leafOk p n x=true:=by
    rw [chkNode_leaf hh h3] at h
    exact h
   unfold leafOk at hl
   rcases h3 with h3 | h3 | h3
   ·exact .num h3
   ·rw [if_neg (by omega),if_pos h3] at hl
    simp only [Bool.and_eq_true] at hl
    exact .aff h3 (Nat.le_of_eq (vOverL_len hl.1))
   ·rw [if_neg (by omega),if_neg (by omega)] at hl
    simp only [Bool.and_eq_true] at hl
    exact .read h3 (vCell_ok hl.2)
  ·have h0:x.op≠0:=fun e=>h3 (.inl e)
   have h1:x.op≠1:=fun e=>h3 (.inr (.inl e))
   have h2:x.op≠2:=fun e=>h3 (.inr (.inr e))
   by_cases ha:∃ a b,x.args=[a,b]
   ·obtain ⟨a,b,ha⟩:=ha
    rw [chkNode_two hh h0 h1 h2 ha] at h
    split at h
    ·rename_i hA
     simp only [headOk,Bool.and_eq_true,decide_eq_true_eq] at hh
     exact .bin (by omega) (by omega) ha (ih a (by rw [ha]; simp) _ hA) (ih b (by rw [ha]; simp) _ h)
    ·cases h
   ·rw [chkNode_not hh h0 h1 h2 (fun a b e=>ha ⟨a,b,e⟩)] at h
    cases h
 ·rw [chkNode_bad (by simpa using hh)] at h
  cases h
theorem vBound_ok {n:Nat} {b:Bound} (h:vBound n b=true):okBn n b:=by
 simp only [vBound,Bool.and_eq_true,decide_eq_true_eq] at h
 refine ⟨Nat.le_trans (show b.parts.length≤400 by omega) (by decide),fun q hq=>?_⟩
 have h1:=List.all_eq_true.1 h.2 q hq
 simp only [vPart,Bool.and_eq_true,decide_eq_true_eq] at h1
 refine ⟨Nat.le_trans (show q.rows.length≤96 by omega) (by decide),fun r hr=>?_⟩
 have h2:=List.all_eq_true.1 h1.2 r hr
 simp only [vRow,Bool.and_eq_true] at h2
 exact Nat.le_of_eq (vOverL_len h2.1.1)
theorem chkBody_dl {p:Prg} {l:List Stm} {nm:List ByteArray} {st:Int} (h:(chkBody p l nm st).1=true):deep p l nm=true∧(chkList p l nm st).1=true:=by
 unfold chkBody at h
 split at h
 ·rename_i hd; exact ⟨hd,h⟩
 ·cases h
theorem chkList_mem {p:Prg} {nm:List ByteArray}:∀ {l:List Stm} {st:Int},(chkList p l nm st).1=true→∀ s∈l, ∃ st',(chkStm p s nm st').1=true
 | [],_,_,s,hs=>by simp at hs
 | t::l,st,h,s,hs=>by
  simp only [chkList] at h
  split at h<;>try (cases h; done)
  split at h<;>try (cases h; done)
  rename_i h1
  rcases List.mem_cons.1 hs with rfl | hs
  ·exact ⟨_,h1⟩
  ·exact chkList_mem h s hs
theorem deep_len {p:Prg} {l:List Stm} {nm:List ByteArray} (hp:p.params.length≤2) (h:deep p l nm=true) {s:Stm} (hs:s∈l):nm.length≤12:=by
 have:=List.length_pos_of_mem hs
 simp only [deep,Bool.or_eq_true,decide_eq_true_eq] at h
 omega
theorem chk_okst {p:Prg} (hp:p.params.length≤2) {ps:List Int}:∀ (s:Stm) (nm:List ByteArray) (st:Int),nm.length≤12→(chkStm p s nm st).1=true→OkSt (shapesOf ps p.arrays) nm.length s:=by
 refine Stm.ind fun s ihb ihe nm st hnm h=>?_
 by_cases h1:s.kind=1
 ·rw [chkStm_for h1] at h
  split at h<;>try (cases h; done)
  rename_i hf
  simp only [cFor,Bool.and_eq_true,decide_eq_true_eq] at hf
  obtain ⟨hd,hl⟩:=chkBody_dl h
  refine .loop h1 (by omega) (vBound_ok hf.1.1.1.1.2) (vBound_ok hf.1.1.1.2) ⟨hf.1.1.2.1.1.1,hf.1.1.2.1.1.2⟩ fun t ht=>?_
  obtain ⟨st',h'⟩:=chkList_mem hl t ht
  have:=ihb t ht (nm++[s.name]) st' (deep_len hp hd ht) h'
  rwa [List.length_append] at this
 ·by_cases h2:s.kind=2
  ·rw [chkStm_if h2] at h
   split at h<;>try (cases h; done)
   split at h<;>try (cases h; done)
   rename_i hb
   obtain ⟨_,hl⟩:=chkBody_dl hb
   obtain ⟨_,hl2⟩:=chkBody_dl h
   refine .test h2 (fun t ht=>?_) fun t ht=>?_
   ·obtain ⟨st',h'⟩:=chkList_mem hl t ht
    exact ihb t ht nm st' hnm h'
   ·obtain ⟨st',h'⟩:=chkList_mem hl2 t ht
    exact ihe t ht nm st' hnm h'
  ·by_cases h3:s.kind=3
   ·rw [chkStm_asg h3] at h
    simp only [cAsg,Bool.and_eq_true] at h
    exact .asg h1 h2 (node_ok' _ _ h.2) (vCell_ok h.1.2)
   ·exfalso
    cases s
    simp only at h1 h2 h3
    rw [chkStm] at h
    simp only [h1,h2,h3,if_false] at h
    cases h
theorem prg_okst {p:Prg} (h:chkPrg p=true) {ps:List Int} (hl:ps.length=p.params.length):∀ t∈p.body,OkSt (shapesOf ps p.arrays) ps.length t:=by
 have hh:=chk_head h
 simp only [chkPrg,Bool.and_eq_true] at h
 obtain ⟨_,h1⟩:=chkBody_dl h.2
 intro t ht
 obtain ⟨st',h'⟩:=chkList_mem h1 t ht
 rw [hl]
 exact chk_okst hh.1 t p.params st' (by omega) h'
theorem cell_lt (x:List Int):∀ (zs:List Int) (ls:List Lin) (k P c:Int),0≤k→k < P→P*4096 ^ zs.length≤68719476736→(∀ z∈zs,z≤4096)→ls.length=zs.length→cellV x ls zs k=some c→0≤c∧c < zs.foldl rcStep P
 | [],[],k,P,c,h0,h1,_,_,_,h=>by simp only [cellV,Option.some.injEq] at h; subst h; exact ⟨h0,h1⟩
 | z::zs,l::ls,k,P,c,h0,h1,h2,hz,hl,h=>by
  rw [cellV] at h
  split at h
  ·cases h
  ·rename_i hn
   have hz1:=hz z (by simp)
   have e2:imax (imin z 4096) 0=z:=by unfold imax imin; split<;>split<;>omega
   have hp:(1:Int)≤4096 ^ zs.length:=by
    have:(0:Int) < 4096 ^ zs.length:=Int.pow_pos (by decide)
    omega
   have hPz:P*z≤P*4096:=Int.mul_le_mul_of_nonneg_left hz1 (by omega)
   have hPz0:0≤P*z:=Int.mul_nonneg (by omega) (by omega)
   have e:P*4096*4096 ^ zs.length=P*4096 ^ (z::zs).length:=by
    rw [List.length_cons,Int.pow_succ,Int.mul_assoc,Int.mul_comm 4096]
   have h3:P*z*4096 ^ zs.length≤68719476736:=by
    have:P*z*4096 ^ zs.length≤P*4096*4096 ^ zs.length:=Int.mul_le_mul_of_nonneg_right hPz (by omega)
    omega
   have h4:P*z≤68719476736:=by
    have:P*z*1≤P*z*4096 ^ zs.length:=Int.mul_le_mul_of_nonneg_left hp hPz0
    omega
   have hkz:(k+1)*z≤P*z:=Int.mul_le_mul_of_nonneg_right (by omega) (by omega)
   have hkz0:0≤k*z:=Int.mul_nonneg h0 (by omega)
   have hkz1:(k+1)*z=k*z+z:=by rw [Int.add_mul,Int.one_mul]
   have s1:rcStep P z=P*z:=by unfold rcStep; rw [e2]; exact wi_id (by omega) (by omega)
   have s2:wi (wi (k*z)+linAt l x)=k*z+linAt l x:=by rw [wi_id (x:=k*z) (by omega) (by omega)]; exact wi_id (by omega) (by omega)
   rw [s2] at h
   rw [List.foldl_cons,s1]
   exact cell_lt x zs ls _ (P*z) c (by omega) (by omega) h3 (fun y hy=>hz y (List.mem_cons_of_mem _ hy)) (by simpa using hl) h
theorem fit_of {p:Prg} (hc:chkPrg p=true) {ps:List Int} (he:shErr ps p.arrays=0) {mem:List (List Int)} (hm:mem.map (fun r=>(r.length:Int))=rcOf ps p.arrays):Fit (shapesOf ps p.arrays) mem:=by
 have hag:=cells_agree hc he
 have hh:=chk_head hc
 intro j s hs
 simp only [shapesOf,List.getElem?_map,Option.map_eq_some_iff] at hs
 obtain ⟨a,ha,rfl⟩:=hs
 have hm2:(mem.map fun r=>(r.length:Int))[j]?=some (rcCells (sizesOf a ps)):=by rw [hm]; simp [rcOf,ha]
 rw [List.getElem?_map,Option.map_eq_some_iff] at hm2
 obtain ⟨row,h1,h2⟩:=hm2
 have hbig:∀ z∈sizesOf a ps,z≤4096:=by
  intro z hz
  obtain ⟨l,hl,rfl⟩:=List.mem_map.1 hz
  unfold shErr at he
  split at he
  ·cases he
  ·rename_i hb
   simp only [List.any_eq_true,not_exists,not_and] at hb
   have:=hb a (List.mem_of_getElem? ha)
   simp only [tooBig,List.any_eq_true,not_exists,not_and,decide_eq_true_eq] at this
   have:=this l hl
   omega
 refine ⟨row,h1,fun x subs c hl hcv=>?_⟩
 have h3:(sizesOf a ps).length≤3:=by simpa [sizesOf] using (hh.2.2 a (List.mem_of_getElem? ha)).1
 have:=cell_lt x (sizesOf a ps) subs 0 1 c (by decide) (by decide) (by
  rw [Int.one_mul]
  have:(sizesOf a ps).length=0∨(sizesOf a ps).length=1∨(sizesOf a ps).length=2∨(sizesOf a ps).length=3:=by omega
  rcases this with h | h | h | h<;>rw [h]<;>decide) hbig hl hcv
 exact ⟨this.1,by rw [h2]; exact this.2⟩
end Wp
end AM
end Go.Proofs.Ytimfbnojmdnlnaa
end
