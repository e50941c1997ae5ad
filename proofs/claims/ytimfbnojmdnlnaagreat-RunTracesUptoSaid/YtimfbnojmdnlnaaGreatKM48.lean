/- The reference's machine: body; The reference's machine: body of any statements; Fits. -/
import Derived.Test.YtimfbnojmdnlnaaGreatKM44
set_option linter.all false
set_option maxRecDepth 100000
section
namespace Go.Proofs.YtimfbnojmdnlnaaGreat
namespace AM
namespace Wp
variable {U:St} {T:Lev} {B A:List (List V)} {c:Rc} {st:Int} {rows:List (List Int)} {ins:List Ins} {evs:List Ev}
inductive OkTb:Nat→Stm→Prop
 | loop {nv:Nat} {s:Stm} (h:s.kind=1) (hb:∀ t∈s.body,OkTb (nv+1) t):OkTb nv s
 | test {nv:Nat} {s:Stm} (h:s.kind=2) (ht:OkTst nv s.test) (hb:∀ t∈s.body,OkTb nv t) (he:∀ t∈s.els,OkTb nv t):OkTb nv s
 | asg {nv:Nat} {s:Stm} (h1:s.kind≠1) (h2:s.kind≠2):OkTb nv s
def BodyR (c:Rc) (nv:Nat) (l:List Stm):Prop:=∀ (b bx:Bool) (x:List Int) (first st:Int) (rows:List (List Int)) (ins:List Ins) (evs:List Ev) (B:List (List V)) (U:St),x.length=nv→RI c st rows 0 ins evs B→Bnd st ins evs →
 CallQ theEnv (.fn 101) [.ptr 0 c.mi 0, .slice (nk b) (l.map encStm), .slice (nk bx) (x.map encI), .int .i64 first] (rb U B) (TrQ c U ins evs (bodyT c.sh c.p.params.length c.dry l x first st rows))
def Mid (c:Rc) (ins:List Ins) (evs:List Ev) (tot:Tr) (B:List (List V)) (K:Int→List (List Int)→Tr):Prop :=
 (∃ st rows i1 l1,RI c st rows 0 (ins++i1) (evs++l1) B∧Bnd st (ins++i1) (evs++l1)∧tot=tapp i1 l1 (K st rows)) ∨
 ∃ st rows e i1 l1,e≠0∧RI c st rows e (ins++i1) (evs++l1) B∧tot=⟨.pan e,i1,l1⟩
theorem trQ_mid {tot:Tr} {st' e:Int} {rows':List (List Int)} {i1:List Ins} {l1:List Ev} (he:e≠0) (h:RI c st' rows' e (ins++i1) (evs++l1) B) (ht:tot=⟨.pan e,i1,l1⟩):TrQ c U ins evs tot (.ret (.tup [])) (rb U B):=by
 subst ht; exact trQ_pan rfl he h
theorem body_listR {nv:Nat} (hnv:nv≤1000) (hnp:c.p.params.length≤nv) {l:List Stm} (hl:l.length≤LIM) (hok:∀ s∈l,OkStm s∧wtL (encStm s)≤300000000) (hst:∀ s∈l,OkSt c.sh nv s∧OkCt s∧OkTb nv s)
  (h1:∀ s∈l,s.kind=1→BodyR c (nv+1) s.body) (h2:∀ s∈l,s.kind=2→BodyR c nv s.body∧BodyR c nv s.els):BodyR c nv l:=by
 intro b bx x first st rows ins evs B U hx h hbd
 have hxl:x.length≤LIM:=by rw [hx]; exact Nat.le_trans hnv (by decide)
 refine CallQ.fn rfl rfl rfl ?_
 simp only [a101,c101,go_sem,simprocAttr]
 generalize htot:bodyT c.sh c.p.params.length c.dry l x first st rows=tot
 refine Run_range l.length [0,2,13] [3] (fun k vs S'=>∃ (A B':List (List V)) (f:Int),vs=[.int .i64 f]∧S'=⟨A,none⟩::rb U B'∧Mid c ins evs tot B' fun st rows=>bodyT c.sh c.p.params.length c.dry (l.drop k) x f st rows) (Nat.le_trans hl (by decide)) sx sx rfl rfl rfl rfl sx
  ⟨[],B,first,by simp only [go_sem,simprocAttr],rfl, .inl ⟨st,rows,[],[],by simpa using h,by simpa using hbd,by rw [tapp_nil,List.drop_zero]; exact htot.symm⟩⟩ ?_ ?_
 ·rintro k F _ hk ⟨A,B',f,hv,rfl,hmid⟩ hi hkept
  simp only [go_sem,simprocAttr] at hkept hv
  obtain ⟨s,hs⟩:∃ s,l[k]?=some s:=⟨l[k],List.getElem?_eq_getElem hk⟩
  have hm:=List.mem_of_getElem? hs
  obtain ⟨hso,hsw⟩:=hok s hm
  obtain ⟨hs1,hs2,hs3⟩:=hst s hm
  simp only [go_sem,simprocAttr,hkept,hi,hv,iaO_map hs]
  rcases hmid with ⟨st',rows',i1,l1,hR,hB,ht⟩ | ⟨st',rows',e,i1,l1,he,hR,ht⟩
  ·have hmR:=hR.m
   simp only [go_sem,simprocAttr,hmR,rcells,rcw]
   replace ht:tot=tapp i1 l1 (bodyT c.sh c.p.params.length c.dry (l.drop k) x f st' rows'):=ht
   rw [drop_at hs,bodyT] at ht
   have hasg:Sp theEnv 134 [.slice .shut [encStm s]] (.int .i64 (nAsg [s]:Nat)):=rasg_ok (l:=[s]) (show 1≤LIM by decide) (by simpa using hso) (by simp only [List.map_cons,List.map_nil,wtR]; omega) false
   have hn1:nAsg [s]=nAsgS s:=by rw [nAsg,nAsg]; rfl
   rw [hn1] at hasg
   rw [Run_if]
   simp only [go_sem,simprocAttr]
   split
   ·rename_i hk1
    rw [stmT_eq,if_pos hk1] at ht
    cases hs1 with
    | test hk=>omega
    | asg hk=>exact absurd hk1 hk
    | loop _ hn hlo hhi hstp hob =>
     subst hx
     have hlow:=rlow_ok hso.low' (k:=bx) (x:=x) hlo hxl
     have hhigh:=rhigh_ok hso.high' (k:=bx) (x:=x) hhi hxl
     by_cases q1:boundR true x s.low < -4294967296∨4294967296 < boundR true x s.low
     ·have c1:(decide (-4294967296≤boundR true x s.low)&&decide (boundR true x s.low≤4294967296))=false:=by simp; omega
      have v1:boundV true x s.low=none:=by unfold boundV; rw [if_pos q1]
      rw [v1] at ht
      have hR2:=hR.set st' 6 (ins++i1) (evs++l1)
      simp only [go_sem,simprocAttr,hkept,hlow.call,hhigh.call,(coord_ok _).call,(coord_ok _).callG,c1]
      simp only [go_sem,simprocAttr,hkept,hmR,rcells,rcw]
      exact trQ_mid (by decide) hR2 (by rw [ht]; simp [tapp,Tr.bind])
     ·have c1:(decide (-4294967296≤boundR true x s.low)&&decide (boundR true x s.low≤4294967296))=true:=by simp; omega
      have v1:boundV true x s.low=some (boundR true x s.low):=by unfold boundV; rw [if_neg q1]
      by_cases q2:boundR false x s.high < -4294967296∨4294967296 < boundR false x s.high
      ·have c2:(decide (-4294967296≤boundR false x s.high)&&decide (boundR false x s.high≤4294967296))=false:=by simp; omega
       have v2:boundV false x s.high=none:=by unfold boundV; rw [if_pos q2]
       rw [v1,v2] at ht
       have hR2:=hR.set st' 6 (ins++i1) (evs++l1)
       simp only [go_sem,simprocAttr,hkept,hlow.call,hhigh.call,(coord_ok _).call,(coord_ok _).callG,c1,c2]
       simp only [go_sem,simprocAttr,hkept,hmR,rcells,rcw]
       exact trQ_mid (by decide) hR2 (by rw [ht]; simp [tapp,Tr.bind])
      ·have c2:(decide (-4294967296≤boundR false x s.high)&&decide (boundR false x s.high≤4294967296))=true:=by simp; omega
       have v2:boundV false x s.high=some (boundR false x s.high):=by unfold boundV; rw [if_neg q2]
       rw [v1,v2] at ht
       simp only [go_sem,simprocAttr,hkept,hlow.call,hhigh.call,(coord_ok _).call,(coord_ok _).callG,c1,c2]
       replace ht:tot=tapp i1 l1 ((loopT (fun v st rows=>bodyT c.sh c.p.params.length c.dry s.body (x++[v]) f st rows) s.step (boundR false x s.high) (boundR false x s.high - boundR true x s.low+1).toNat (boundR true x s.low) st' rows').bind fun st rows=>bodyT c.sh c.p.params.length c.dry (l.drop (k+1)) x (wi (f+(nAsgS s:Nat))) st rows):=ht
       have hcb:∀ t∈s.body,OkCt t:=by
        cases hs2 with
        | loop _ h=>exact h
        | test h=>omega
        | asg h=>exact absurd hk1 h
       refine Run_loop [0,2,3,9,11,13,15,25] (fun m F S=>∃ (v st2:Int) (rows2:List (List Int)) (i2:List Ins) (l2:List Ev) (B2:List (List V)),F 12=.int .i64 v∧S=⟨A++[encStm s],none⟩::rb U B2∧RI c st2 rows2 0 (ins++i2) (evs++l2) B2∧Bnd st2 (ins++i2) (evs++l2)∧boundR false x s.high - v+1≤(m:Int)∧v≤4294967360∧boundR true x s.low≤v ∧
        tot=tapp i2 l2 ((loopT (fun v st rows=>bodyT c.sh c.p.params.length c.dry s.body (x++[v]) f st rows) s.step (boundR false x s.high) m v st2 rows2).bind fun st rows=>bodyT c.sh c.p.params.length c.dry (l.drop (k+1)) x (wi (f+(nAsgS s:Nat))) st rows)) (boundR false x s.high - boundR true x s.low+1).toNat rfl (by simp only [go_sem,simprocAttr,hkept,hv,hi]) ⟨boundR true x s.low,st',rows',i1,l1,B',by simp only [go_sem,simprocAttr],rfl,hR,hB,by omega,by omega,by omega,ht⟩ ?_
       clear ht hB hR hmR
       rintro m F2 _ ⟨v,st2,rows2,i2,l2,B2,hv12,rfl,hR,hB,hmv,hv1,hv2,ht⟩ hkept2
       simp only [go_sem,simprocAttr,hkept,hv,hi] at hkept2
       simp only [go_sem,simprocAttr,hkept2,hv12]
       rw [Run_if]
       simp only [go_sem,simprocAttr]
       split
       ·rename_i hle
        obtain ⟨m,rfl⟩:∃ m',m=m'+1:=⟨m - 1,by omega⟩
        rw [loopT,if_pos hle,bind_assoc] at ht
        have hstep:=rstep_run (U:=⟨A++[encStm s],none⟩::U) hR
        rw [rb_up,rb_up] at hstep
        simp only [go_sem,simprocAttr,hkept2]
        rw [CallP hstep sx sx]
        by_cases h6:st2=65536
        ·have e1:stepB st2=false:=by simp [stepB,h6]
         have hR2:=hR.set st2 3 (ins++i2) (evs++l2)
         subst h6
         rw [step_pan] at ht
         simp only [e1,if_true,go_sem,simprocAttr,Bool.not_false]
         intro _ _
         exact trQ_mid (tot:=tot) (e:=3) (by decide) hR2 (by rw [ht]; simp [tapp])
        ·have e1:stepB st2=true:=by simp [stepB,h6]
         have hR2:=hR.set (wi (st2+1)) 0 (ins++i2) (evs++l2)
         have hw1:wi (st2+1)=st2+1:=wi_id (by have:=hB.1; omega) (by have:=hB.2.1; omega)
         have hB2:Bnd (wi (st2+1)) (ins++i2) (evs++l2):=by
          obtain ⟨b1,b2,b3,b4⟩:=hB
          rw [hw1]
          exact ⟨by omega,by omega,by omega,by omega⟩
         rw [step_ok h6,bind_assoc] at ht
         simp only [e1,h6,if_false]
         revert hR2 hB2
         generalize bset B2 c.mi (rcells c (wi (st2+1)) 0 (ins++i2) (evs++l2))=B3
         intro hR2 hB2
         have a1:=app3 (k:=nk bx) (l:=x) (by omega)
         have a2:appO 3 1 8 (.slice (.own 3) (x.map encI)) (.slice (.own 3) [[V.int .i64 v]])=some (.slice (.own 3) ((x++[v]).map encI)):=by
          rw [List.map_append]; exact app1 rfl (by simp; omega) (by decide)
         have hrun:=h1 s hm hk1 s.bn false (x++[v]) f (wi (st2+1)) rows2 (ins++i2) (evs++l2) B3 (⟨A++[encStm s],none⟩::U) (by simp) hR2 hB2
         rw [rb_up] at hrun
         simp only [go_sem,simprocAttr,hkept2,hv12,a1,a2,hv]
         refine CallPQ hrun sx sx ?_
         rintro o S' ⟨B4,rfl,rfl,hE⟩
         rw [rb_up]
         have htb:=tb_list (sh:=c.sh) (np:=c.p.params.length) (dry:=c.dry) s.body (fun t ht=>tb_stm t (hcb t ht)) (x++[v]) f (wi (st2+1)) rows2 hB2.1 hB2.2.1
         unfold EndT at hE
         cases hr:(bodyT c.sh c.p.params.length c.dry s.body (x++[v]) f (wi (st2+1)) rows2).r with
         | pan e =>
          rw [hr] at hE
          obtain ⟨st3,rows3,he,hR3⟩:=hE
          have hm3:=hR3.m
          rw [tapp_pan hr] at ht
          simp only [go_sem,simprocAttr,hkept2,hm3,rcells,rcw,he]
          intro _
          rw [List.append_assoc,List.append_assoc] at hR3
          exact trQ_mid he hR3 ht
         | ok st3 rows3 =>
          rw [hr] at hE
          have hm3:=hE.m
          have hB3:=hB2.app htb hr
          rw [tapp_ok hr] at ht
          have hw2:wi (v+s.step)=v+s.step:=wi_id (by omega) (by omega)
          have hw3:IntKind.i64.wrap (v+s.step)=v+s.step:=hw2
          rw [hw2] at ht
          rw [List.append_assoc,List.append_assoc] at hE hB3
          simp only [go_sem,simprocAttr,hkept2,hm3,rcells,rcw,hv12,hw3]
          exact ⟨m,by omega,v+s.step,st3,rows3,_,_,B4,rfl,rfl,hE,hB3,by omega,by omega,by omega,ht⟩
       ·rename_i hle
        intro _
        have ht2:tot=tapp i2 l2 (bodyT c.sh c.p.params.length c.dry (l.drop (k+1)) x (wi (f+(nAsgS s:Nat))) st2 rows2):=by
         rw [ht]
         cases m with
         | zero=>rfl
         | succ m=>rw [loopT,if_neg hle]; rfl
        simp only [go_sem,simprocAttr,hkept2,hasg.call]
        exact ⟨_,B2,_,rfl,⟨rfl,rfl⟩, .inl ⟨st2,rows2,i2,l2,hR,hB,ht2⟩⟩
   ·rename_i hk1
    rw [stmT_eq,if_neg hk1] at ht
    rw [Run_if]
    simp only [go_sem,simprocAttr]
    split
    ·rename_i hk2
     rw [if_pos hk2] at ht
     obtain ⟨hb1,hb2⟩:=h2 s hm hk2
     have htst:OkTst nv s.test:=by
      cases hs3 with
      | loop h=>omega
      | test _ h=>exact h
      | asg _ h=>exact absurd hk2 h
     have hcb:(∀ t∈s.body,OkCt t)∧∀ t∈s.els,OkCt t:=by
      cases hs2 with
      | loop h=>omega
      | test _ h h'=>exact ⟨h,h'⟩
      | asg _ h=>exact absurd hk2 h
     have his:=is4_ok htst (b:=bx) hx hxl
     have hwb:wtR (s.body.map encStm)≤400000000:=by rw [I.wl_Stm] at hsw; omega
     have hasb:=rasg_ok hso.bn' hso.body' hwb s.bn
     simp only [go_sem,simprocAttr,hkept,his.call]
     rw [Run_if]
     simp only [go_sem,simprocAttr]
     split
     ·rename_i hh
      rw [if_pos hh] at ht
      have hrun:=hb1 s.bn bx x f st' rows' (ins++i1) (evs++l1) B' (⟨A++[encStm s],none⟩::U) hx hR hB
      rw [rb_up] at hrun
      have htb:=tb_list (sh:=c.sh) (np:=c.p.params.length) (dry:=c.dry) s.body (fun t ht=>tb_stm t (hcb.1 t ht)) x f st' rows' hB.1 hB.2.1
      simp only [go_sem,simprocAttr,hkept,hv]
      refine CallPQ hrun sx sx ?_
      rintro o S' ⟨B4,rfl,rfl,hE⟩
      rw [rb_up]
      unfold EndT at hE
      cases hr:(bodyT c.sh c.p.params.length c.dry s.body x f st' rows').r with
      | pan e =>
       rw [hr] at hE
       obtain ⟨st3,rows3,he,hR3⟩:=hE
       have hm3:=hR3.m
       rw [tapp_pan hr] at ht
       simp only [go_sem,simprocAttr,hkept,hv,hasg.call]
       rw [List.append_assoc,List.append_assoc] at hR3
       exact ⟨_,B4,_,rfl,⟨rfl,rfl⟩, .inr ⟨st3,rows3,e,_,_,he,hR3,ht⟩⟩
      | ok st3 rows3 =>
       rw [hr] at hE
       have hm3:=hE.m
       have hB3:=hB.app htb hr
       rw [tapp_ok hr] at ht
       rw [List.append_assoc,List.append_assoc] at hE hB3
       simp only [go_sem,simprocAttr,hkept,hv,hasg.call]
       exact ⟨_,B4,_,rfl,⟨rfl,rfl⟩, .inl ⟨st3,rows3,_,_,hE,hB3,ht⟩⟩
     ·rename_i hh
      rw [if_neg hh] at ht
      have hrun:=hb2 s.en bx x (wi (f+(nAsg s.body:Nat))) st' rows' (ins++i1) (evs++l1) B' (⟨A++[encStm s],none⟩::U) hx hR hB
      rw [rb_up] at hrun
      have htb:=tb_list (sh:=c.sh) (np:=c.p.params.length) (dry:=c.dry) s.els (fun t ht=>tb_stm t (hcb.2 t ht)) x (wi (f+(nAsg s.body:Nat))) st' rows' hB.1 hB.2.1
      simp only [go_sem,simprocAttr,hkept,hv,hasb.call]
      refine CallPQ hrun sx sx ?_
      rintro o S' ⟨B4,rfl,rfl,hE⟩
      rw [rb_up]
      unfold EndT at hE
      cases hr:(bodyT c.sh c.p.params.length c.dry s.els x (wi (f+(nAsg s.body:Nat))) st' rows').r with
      | pan e =>
       rw [hr] at hE
       obtain ⟨st3,rows3,he,hR3⟩:=hE
       have hm3:=hR3.m
       rw [tapp_pan hr] at ht
       simp only [go_sem,simprocAttr,hkept,hv,hasg.call]
       rw [List.append_assoc,List.append_assoc] at hR3
       exact ⟨_,B4,_,rfl,⟨rfl,rfl⟩, .inr ⟨st3,rows3,e,_,_,he,hR3,ht⟩⟩
      | ok st3 rows3 =>
       rw [hr] at hE
       have hm3:=hE.m
       have hB3:=hB.app htb hr
       rw [tapp_ok hr] at ht
       rw [List.append_assoc,List.append_assoc] at hE hB3
       simp only [go_sem,simprocAttr,hkept,hv,hasg.call]
       exact ⟨_,B4,_,rfl,⟨rfl,rfl⟩, .inl ⟨st3,rows3,_,_,hE,hB3,ht⟩⟩
    ·rename_i hk2
     rw [if_neg hk2] at ht
     have hsv:OkX c.sh x.length s.value∧OkRf c.sh x.length s.target:=by
      rw [hx]
      cases hs1 with
      | loop h=>exact absurd h hk1
      | test h=>exact absurd h hk2
      | asg _ _ he ht=>exact ⟨he,ht⟩
     have hcn:cntE s.value≤64:=by
      cases hs2 with
      | loop h=>exact absurd h hk1
      | test h=>exact absurd h hk2
      | asg _ _ h=>exact h
     have hbc:=hB
     obtain ⟨b1,b2,b3,b4⟩:=hbc
     have hrun:=rassign_run (U:=⟨A++[encStm s],none⟩::U) (x:=x) (b:=bx) (by omega) hso (fun _=>hsv) (by omega) f hR (by omega) (by omega)
     rw [rb_up] at hrun
     have htb:=tb_asg (sh:=c.sh) (np:=c.p.params.length) (dry:=c.dry) (s:=s) (x:=x) (num:=f) (rows:=rows') b1 b2 hcn
     simp only [go_sem,simprocAttr,hkept,hv]
     refine CallPQ hrun sx sx ?_
     rintro o S' ⟨B4,rfl,rfl,hE⟩
     rw [rb_up]
     unfold EndT at hE
     cases hr:(assignT c.sh c.p.params.length c.dry s x f st' rows').r with
     | pan e =>
      rw [hr] at hE
      obtain ⟨st3,rows3,he,hR3⟩:=hE
      have hm3:=hR3.m
      rw [tapp_pan hr] at ht
      simp only [go_sem,simprocAttr,hkept,hv,hasg.call]
      rw [List.append_assoc,List.append_assoc] at hR3
      exact ⟨_,B4,_,rfl,⟨rfl,rfl⟩, .inr ⟨st3,rows3,e,_,_,he,hR3,ht⟩⟩
     | ok st3 rows3 =>
      rw [hr] at hE
      have hm3:=hE.m
      have hB3:=hB.app htb hr
      rw [tapp_ok hr] at ht
      rw [List.append_assoc,List.append_assoc] at hE hB3
      simp only [go_sem,simprocAttr,hkept,hv,hasg.call]
      exact ⟨_,B4,_,rfl,⟨rfl,rfl⟩, .inl ⟨st3,rows3,_,_,hE,hB3,ht⟩⟩
  ·have hmR:=hR.m
   simp only [go_sem,simprocAttr,hmR,rcells,rcw,he]
   intro _
   exact trQ_mid he hR ht
 ·rintro F _ ⟨A,B',f,hv,rfl,hmid⟩ hkept
  simp only [go_sem,simprocAttr] at hkept hv
  simp only [go_sem,simprocAttr,hkept,hv]
  rcases hmid with ⟨st',rows',i1,l1,hR,hB,ht⟩ | ⟨st',rows',e,i1,l1,he,hR,ht⟩
  ·simp only at ht
   rw [List.drop_length,bodyT] at ht
   subst ht
   refine trQ_ok (st':=st') (rows':=rows') rfl ?_
   simpa [tapp] using hR
  ·exact trQ_mid he hR ht
end Wp
end AM
end Go.Proofs.YtimfbnojmdnlnaaGreat
end
section
namespace Go.Proofs.YtimfbnojmdnlnaaGreat
namespace AM
namespace Wp
variable {c:Rc}
theorem stmqR:∀ s:Stm,OkStm s→wtL (encStm s)≤300000000→∀ nv,nv≤1000→c.p.params.length≤nv→OkSt c.sh nv s→OkCt s→OkTb nv s→(s.kind=1→BodyR c (nv+1) s.body)∧(s.kind=2→BodyR c nv s.body∧BodyR c nv s.els):=by
 refine Stm.ind fun s ihb ihe hs hw nv hnv hnp h1 h2 h3=>?_
 have hwb:∀ t∈s.body,wtL (encStm t)≤300000000:=fun t ht=>by
  have:=I.wt_part (enc:=encStm) ht
  rw [I.wl_Stm] at hw; omega
 have hwe:∀ t∈s.els,wtL (encStm t)≤300000000:=fun t ht=>by
  have:=I.wt_part (enc:=encStm) ht
  rw [I.wl_Stm] at hw; omega
 refine ⟨fun hk=>?_,fun hk=>?_⟩
 ·cases h1 with
  | test h=>omega
  | asg h=>exact absurd hk h
  | loop _ hn _ _ _ hb =>
   cases h2 with
   | test h=>omega
   | asg h=>exact absurd hk h
   | loop _ hc =>
    cases h3 with
    | test h=>omega
    | asg h=>exact absurd hk h
    | loop _ ht =>
     exact body_listR (by omega) (by omega) hs.bn' (fun t m=>⟨hs.body' t m,hwb t m⟩) (fun t m=>⟨hb t m,hc t m,ht t m⟩)
      (fun t m=>(ihb t m (hs.body' t m) (hwb t m) (nv+1) (by omega) (by omega) (hb t m) (hc t m) (ht t m)).1) (fun t m=>(ihb t m (hs.body' t m) (hwb t m) (nv+1) (by omega) (by omega) (hb t m) (hc t m) (ht t m)).2)
 ·cases h1 with
  | loop h=>omega
  | asg _ h=>exact absurd hk h
  | test _ hb he =>
   cases h2 with
   | loop h=>omega
   | asg _ h=>exact absurd hk h
   | test _ hc hc' =>
    cases h3 with
    | loop h=>omega
    | asg _ h=>exact absurd hk h
    | test _ _ ht ht' =>
     exact ⟨body_listR hnv hnp hs.bn' (fun t m=>⟨hs.body' t m,hwb t m⟩) (fun t m=>⟨hb t m,hc t m,ht t m⟩)
      (fun t m=>(ihb t m (hs.body' t m) (hwb t m) nv hnv hnp (hb t m) (hc t m) (ht t m)).1) (fun t m=>(ihb t m (hs.body' t m) (hwb t m) nv hnv hnp (hb t m) (hc t m) (ht t m)).2),
      body_listR hnv hnp hs.en' (fun t m=>⟨hs.els' t m,hwe t m⟩) (fun t m=>⟨he t m,hc' t m,ht' t m⟩)
      (fun t m=>(ihe t m (hs.els' t m) (hwe t m) nv hnv hnp (he t m) (hc' t m) (ht' t m)).1) (fun t m=>(ihe t m (hs.els' t m) (hwe t m) nv hnv hnp (he t m) (hc' t m) (ht' t m)).2)⟩
theorem bodyqR {l:List Stm} {nv:Nat} (hnv:nv≤1000) (hnp:c.p.params.length≤nv) (hl:l.length≤LIM) (hs:∀ s∈l,OkStm s∧wtL (encStm s)≤300000000) (hok:∀ s∈l,OkSt c.sh nv s∧OkCt s∧OkTb nv s):BodyR c nv l :=
 body_listR hnv hnp hl hs hok (fun s m=>(stmqR s (hs s m).1 (hs s m).2 nv hnv hnp (hok s m).1 (hok s m).2.1 (hok s m).2.2).1) (fun s m=>(stmqR s (hs s m).1 (hs s m).2 nv hnv hnp (hok s m).1 (hok s m).2.1 (hok s m).2.2).2)
theorem ts_tb:∀ s:Stm,OkStm s→∀ nv,OkTs nv s→OkTb nv s:=by
 refine Stm.ind fun s ihb ihe hs nv h=>?_
 cases h with
 | loop hk hb=>exact .loop hk fun t m=>ihb t m (hs.body' t m) _ (hb t m)
 | test hk h12 hv hd hb he =>
  refine .test hk ⟨hs.test'.l,fun p hp=>⟨(hs.test'.s p hp).l,fun cd hcd=>⟨(hs.test'.s p hp).s cd hcd,?_⟩⟩⟩ (fun t m=>ihb t m (hs.body' t m) _ (hb t m)) fun t m=>ihe t m (hs.els' t m) _ (he t m)
  simp only [vSet,Bool.and_eq_true] at hv
  have h1:=List.all_eq_true.1 hv.2 p hp
  simp only [Bool.and_eq_true,vOver] at h1
  have h2:=List.all_eq_true.1 h1.2 cd hcd
  simp only [Bool.and_eq_true,decide_eq_true_eq] at h2
  refine ⟨?_,by omega⟩
  have h3:=h2.1
  unfold vCnd at h3
  split at h3
  ·rename_i hk; omega
  ·split at h3
   ·simp only [Bool.and_eq_true,decide_eq_true_eq] at h3; omega
   ·cases h3
 | asg h1 h2=>exact .asg h1 h2
theorem refList_mem {p:Prg} {names:List ByteArray} {depth:Int}:∀ {l:List Stm} {st:Int},(refList p l names depth st).1=true→∀ s∈l, ∃ st',(refStm p s names depth st').1=true
 | [],_,_,s,hs=>by simp at hs
 | t::l,st,h,s,hs=>by
  rw [refList_cons] at h
  split at h<;>try (cases h; done)
  split at h<;>try (cases h; done)
  rename_i h1
  rcases List.mem_cons.1 hs with rfl | hs
  ·exact ⟨_,h1⟩
  ·exact refList_mem h s hs
theorem ref_ct {p:Prg}:∀ (s:Stm) (nm:List ByteArray) (d st:Int),(refStm p s nm d st).1=true→OkCt s:=by
 refine Stm.ind fun s ihb ihe nm d st h=>?_
 by_cases h1:s.kind=1
 ·rw [refStm_for h1] at h
  split at h<;>try (cases h; done)
  exact .loop h1 fun t ht=>by
   obtain ⟨st',h'⟩:=refList_mem h t ht
   exact ihb t ht _ _ st' h'
 ·by_cases h2:s.kind=2
  ·rw [refStm_if h2] at h
   split at h<;>try (cases h; done)
   split at h<;>try (cases h; done)
   rename_i hb
   refine .test h2 (fun t ht=>?_) fun t ht=>?_
   ·obtain ⟨st',h'⟩:=refList_mem hb t ht
    exact ihb t ht _ _ st' h'
   ·obtain ⟨st',h'⟩:=refList_mem h t ht
    exact ihe t ht _ _ st' h'
  ·by_cases h3:s.kind=3
   ·rw [refStm_asg h3] at h
    simp only [cAsgR,Bool.and_eq_true,decide_eq_true_eq] at h
    have hn:nodesE s.value≤64:=by omega
    exact .asg h1 h2 (by rw [← (nodes_eq s.value).2 (by omega)]; exact hn)
   ·rw [refStm_bad h1 h2 h3] at h; cases h
theorem prg_bodyR {p:Prg} (hp:OkPrg p) (hw:wtL (encPrg p)≤300000000) (h:chkPrg p=true) {ps:List Int} (hl:ps.length=p.params.length) (hcp:c.p=p) (hcs:c.sh=shapesOf ps p.arrays):BodyR c ps.length p.body:=by
 have hh:=chk_head h
 have hok:=prg_okst h hl
 have href:refPrg p=true:=by rw [← prg_agree]; exact h
 have hr2:=href
 simp only [refPrg,Bool.and_eq_true] at hr2
 have hc:=h
 simp only [chkPrg,Bool.and_eq_true] at hc
 obtain ⟨_,h1⟩:=chkBody_dl hc.2
 refine bodyqR (by have:=hh.1; omega) (by rw [hcp]; omega) hp.bl (fun s hs=>⟨hp.bs s hs,?_⟩) fun s hs=>⟨by rw [hcs]; exact hok s hs,?_,?_⟩
 ·have:=I.wt_part (enc:=encStm) hs
  simp only [encPrg,encStms_map,wtL,wt] at hw
  omega
 ·obtain ⟨st',h'⟩:=refList_mem hr2.2 s hs
  exact ref_ct s _ _ _ h'
 ·obtain ⟨st',h'⟩:=chkList_mem h1 s hs
  have:=chk_okts hh.1 s p.params st' (by have:=hh.1; omega) h'
  rw [← hl] at this
  exact ts_tb s (hp.bs s hs) _ this
end Wp
end AM
end Go.Proofs.YtimfbnojmdnlnaaGreat
end
