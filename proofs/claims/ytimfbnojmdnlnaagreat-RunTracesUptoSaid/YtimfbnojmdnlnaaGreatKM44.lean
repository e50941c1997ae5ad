/- The reference's machine: its boxes; step, cell; Blocks of the abstract machine that take a slice out of a box and append to it; The reference's machine: its instances and its events grow; The reference's machine: value; The reference's machine: assign; The reference's machine: how long its lists grow; runs one behind the other. -/
import Derived.Test.YtimfbnojmdnlnaaGreatKShC
import Derived.Test.YtimfbnojmdnlnaaGreatKM35
set_option linter.all false
set_option maxRecDepth 100000
section
namespace Go.Proofs.YtimfbnojmdnlnaaGreat
namespace AM
namespace Wp
def rb (U:St) (B:List (List V)):St:=U++[⟨B,none⟩]
variable {U:St} {T:Lev} {B A:List (List V)} {lp:Option Lp}
theorem rb_up:rb (T::U) B=T::rb U B:=rfl
theorem rb_nil:rb [] B=[⟨B,none⟩]:=rfl
@[go_sem] theorem rb_len:(rb U B).length=U.length+1:=by simp [rb]
@[go_sem] theorem getBox_rb {i:Nat}:getBox (rb U B) 0 i=bget B i:=by
 unfold rb; rw [getBox_app (by simp)]; rfl
@[go_sem] theorem setBox_rb {i:Nat} {v:List V}:setBox (rb U B) 0 i v=rb U (bset B i v):=by
 unfold rb; rw [setBox_app (by simp)]; rfl
@[go_sem] theorem getBox_rbu {i:Nat}:getBox (T::rb U B) 0 i=bget B i:=by rw [← rb_up]; exact getBox_rb
@[go_sem] theorem setBox_rbu {i:Nat} {v:List V}:setBox (T::rb U B) 0 i v=T::rb U (bset B i v):=by rw [← rb_up,setBox_rb]; rfl
@[go_sem] theorem getBox_rbt {i:Nat}:getBox (⟨A,lp⟩::rb U B) (U.length+1) i=bget A i:=by
 have:=getBox_top (B:=A) (lp:=lp) (R:=rb U B) (i:=i)
 rwa [rb_len] at this
@[go_sem] theorem setBox_rbt {i:Nat} {v:List V}:setBox (⟨A,lp⟩::rb U B) (U.length+1) i v=⟨bset A i v,lp⟩::rb U B:=by
 have:=setBox_top (B:=A) (lp:=lp) (R:=rb U B) (i:=i) (cs:=v)
 rwa [rb_len] at this
structure Rc where
 p:Prg
 sh:List Shape
 b:Bool
 mv:V
 dry:Bool
 mi:Nat
def rcw (c:Rc) (st e:Int) (w1 w2:V):List V :=
 [.slice (nk c.p.pn) (c.p.params.map encS), .slice (nk c.p.an) (c.p.arrays.map encArr), .slice (nk c.p.bn) (c.p.body.map encStm), .slice (nk c.b) (c.sh.map fun s=>encRow s.sizes),c.mv, .bool c.dry, .int .i64 st, .int .i64 0, .int .i64 e,w1,w2]
def rcells (c:Rc) (st e:Int) (ins:List Ins) (evs:List Ev):List V:=rcw c st e (grown 94 (evs.map encEv)) (grown 91 (ins.map encIns))
theorem dz_rcells {c:Rc} {st e:Int} {ins:List Ins} {evs:List Ev}:dz (some (rcells c st e ins evs))=some (rcells c st e ins evs):=rfl
structure RI (c:Rc) (st:Int) (rows:List (List Int)) (e:Int) (ins:List Ins) (evs:List Ev) (B:List (List V)):Prop where
 m:bget B c.mi=some (rcells c st e ins evs)
 r:c.dry=false→MB [⟨B,none⟩] c.mv rows∧Fit c.sh rows
 b:bare c.mv=true∧barest B=true
theorem bare_grown {e:Nat} {xs:List (List V)}:bare (grown e xs)=true:=by cases xs<;>rfl
theorem bareL_rcells {c:Rc} {st e:Int} {ins:List Ins} {evs:List Ev} (h:bare c.mv=true):bareL (rcells c st e ins evs)=true:=by
 have h1:∀ {b:Bool} {l:List (List V)},bare (.slice (nk b) l)=true:=fun {b l}=>by cases b<;>rfl
 have h2:∀ {k:IntKind} {n:Int},bare (.int k n)=true:=rfl
 have h3:∀ {b:Bool},bare (.bool b)=true:=rfl
 simp only [rcells,rcw,bareL,h1,h2,h3,bare_grown,h,Bool.and_self]
variable {c:Rc} {st e:Int} {rows:List (List Int)} {ins:List Ins} {evs:List Ev}
theorem MB.rset {mv:V} {w:List V} {mi:Nat} {st0 e0:Int} {ins0:List Ins} {evs0:List Ev} (h:MB [⟨B,none⟩] mv rows) (hm:bget B mi=some (rcells c st0 e0 ins0 evs0)):MB [⟨bset B mi w,none⟩] mv rows:=by
 rcases h with h | ⟨oi,cs,h1,h2,h3,h4,h5⟩
 ·exact .inl h
 ·rw [getBox_one] at h2
  refine .inr ⟨oi,cs,h1,?_,h3,fun j r hr=>?_,h5⟩
  ·rw [getBox_one,bget_ne,h2]
   rintro rfl
   rw [hm] at h2
   have h6:=Option.some.inj h2
   have h7:cs[5]?=some (.bool c.dry):=by rw [← h6]; rfl
   have h8:∃ r,rows[5]?=some r:=⟨rows[5]'(by rw [← h3, ← h6]; show 5 < 11; decide),List.getElem?_eq_getElem _⟩
   obtain ⟨r,hr⟩:=h8
   rcases h4 5 r hr with ⟨_,h⟩ | ⟨i,h,_⟩<;>(rw [h7] at h; cases h)
  ·rcases h4 j r hr with h | ⟨i,h6,h7⟩
   ·exact .inl h
   ·refine .inr ⟨i,h6,?_⟩
    rw [getBox_one] at h7
    rw [getBox_one,bget_ne,h7]
    rintro rfl
    rw [hm] at h7
    have h8:=congrArg List.head? (Option.some.inj h7)
    cases r<;>simp [ints,rcells,rcw] at h8
theorem RI.set (h:RI c st rows e ins evs B) (st' e':Int) (ins':List Ins) (evs':List Ev):RI c st' rows e' ins' evs' (bset B c.mi (rcells c st' e' ins' evs')) :=
 ⟨bget_set h.m dz_rcells,fun hd=>⟨(h.r hd).1.rset h.m,(h.r hd).2⟩,h.b.1,barest_set (barest_one (bareL_rcells h.b.1)) h.b.2⟩
theorem bset_bset {i:Nat} {v w:List V}:bset (bset B i v) i w=bset B i w:=by simp [bset]
def stepB (st:Int):Bool:=!decide (st=65536)
theorem rstep_run (h:RI c st rows 0 ins evs B):CallIs theEnv (.fn 132) [.ptr 0 c.mi 0] (rb U B) (.ret (.bool (stepB st))) (rb U (bset B c.mi (if st=65536 then rcells c st 3 ins evs else rcells c (wi (st+1)) 0 ins evs))):=by
 have hm:=h.m
 refine CallIs.fn rfl rfl rfl ?_
 simp only [a132,c132,go_sem,simprocAttr,hm,rcells,rcw]
 rw [Run_if]
 simp only [go_sem,simprocAttr,stepB]
 split
 ·rename_i h1
  simp only [go_sem,simprocAttr,hm,rcells,rcw]
  simp [h1]
 ·rename_i h1
  simp only [go_sem,simprocAttr,hm,rcells,rcw,setAt_at0]
  exact ⟨by simp [h1],rfl⟩
theorem rcell_run {x:List Int} {r:Ref} {a:Nat} {s:Shape} {b:Bool} (hr:OkRef r) (hm:bget B c.mi=some (rcells c st 0 ins evs)) (hxl:x.length≤LIM) (ha:r.a=(a:Int)) (hs:c.sh[a]?=some s) (hl:r.subs.length=s.sizes.length) (hc:∀ l∈r.subs,l.c.length≤x.length) :
  CallIs theEnv (.fn 160) [.ptr 0 c.mi 0, .agg (encRef r), .slice (nk b) (x.map encI)] (rb U B) (.ret (.tup [.int .i64 ((cellV x r.subs s.sizes 0).getD 0), .bool (cellV x r.subs s.sizes 0).isSome])) (rb U (if (cellV x r.subs s.sizes 0).isSome=true then B else bset B c.mi (rcells c st 6 ins evs))):=by
 refine CallIs.fn rfl rfl rfl ?_
 have hia:∀ kk:IntKind,iaO 1 (.slice (nk c.b) (c.sh.map fun s=>encRow s.sizes)) (.int kk r.a)=some (.look [.slice (nk s.sizes.isEmpty) (s.sizes.map encI)]):=fun kk=>by rw [ha,iaO_map hs]; rfl
 simp only [a160,c160,go_sem,simprocAttr]
 refine Run_range r.subs.length [0,2,4,14] [8] (fun k vs S'=>∃ n,vs=[.int .i64 n]∧cellV x (r.subs.drop k) (s.sizes.drop k) n=cellV x r.subs s.sizes 0∧∃ A,S'=⟨encRef r::A,none⟩::rb U B) (Nat.le_trans hr.l (by decide)) sx sx rfl rfl rfl rfl sx ⟨0,by simp only [go_sem,simprocAttr],rfl,_,rfl⟩ ?_ ?_
 ·rintro k F _ hk ⟨n,hv,hn,A,rfl⟩ hi hkept
  simp only [go_sem,simprocAttr] at hkept hv
  obtain ⟨l,hlk⟩:∃ l,r.subs[k]?=some l:=⟨r.subs[k],List.getElem?_eq_getElem hk⟩
  obtain ⟨z,hz⟩:∃ z,s.sizes[k]?=some z:=⟨s.sizes[k]'(by omega),List.getElem?_eq_getElem (by omega)⟩
  have hlm:=List.mem_of_getElem? hlk
  rw [drop_at hlk,drop_at hz,cellV] at hn
  simp only [go_sem,simprocAttr,hkept,hi,hv,iaO_map hlk,(value_ok (hr.s l hlm) (hc l hlm) hxl).call,hm,rcells,rcw,hia,iaO_map hz]
  rw [Run_if]
  simp only [go_sem,simprocAttr]
  split
  ·rename_i h
   simp only [Bool.or_eq_true,decide_eq_true_eq] at h
   rw [if_pos h] at hn
   simp only [go_sem,simprocAttr,hkept, ← hn,hm,rcells,rcw]
   exact ⟨rfl,rfl⟩
  ·rename_i h
   simp only [Bool.or_eq_true,decide_eq_true_eq] at h
   rw [if_neg h] at hn
   simp only [go_sem,simprocAttr,hkept,hv]
   exact ⟨_,rfl,hn⟩
 ·rintro F _ ⟨n,hv,hn,A,rfl⟩ hkept
  simp only [go_sem,simprocAttr] at hkept hv
  rw [List.drop_length] at hn
  have:cellV x [] (s.sizes.drop r.subs.length) n=some n:=rfl
  rw [this] at hn
  simp only [go_sem,simprocAttr,hkept,hv, ← hn]
end Wp
end AM
end Go.Proofs.YtimfbnojmdnlnaaGreat
end
section
namespace Go.Proofs.YtimfbnojmdnlnaaGreat
namespace AM
namespace Wp
section
variable {E:Env} {F F1:Fr} {S S1 S0:St} {Q:Ex→Fr→St→Prop} {os:List AOper} {bs:List Blk} {ks:List KI} {cE:CE} {C:Option (St×St)} {D:Option (Nat×Nat×Option Nat)}
theorem EvbQ.chn (h:∃ K, ∀ j,K≤j→chnB (callN E j) os F S=some (F1,S1)) (k:EvbQ E bs F1 S1 Q):EvbQ E (.chn os::bs) F S Q:=by
 obtain ⟨K,hK⟩:=h
 obtain ⟨r,⟨K2,h8⟩,h9⟩:=k
 refine ⟨r,⟨max K K2,fun j hj=>?_⟩,h9⟩
 simp only [blks,hK j (by omega)]
 exact h8 j (by omega)
theorem Wk_chn (h:∃ K, ∀ j,K≤j→chnB (callN E j) os F S=some (F1,S1)) (k:Wk E (.s bs) ks F1 S1 Q):Wk E (.s (.chn os::bs)) ks F S Q:=EvbQ.chn h (Wb_ok k)
theorem chnL_go {o:AOper} {ws:List (Nat×V)} {S2:St} {r:Option (Fr×St)} (h:chnEff cE C D S0 o F S=some (ws,S2)) (k:chnL cE C D S0 os (puts ws F) S2=r):chnL cE C D S0 (o::os) F S=r:=by
 simp only [chnL,h,Option.bind_some,k]
def plainOp:AOp→Bool
 | .mv true _=>false
 | .al _=>false
 | .ld true _ _ _=>false
 | .app ..=>false
 | .st ..=>false
 | .call ..=>false
 | .callw ..=>false
 | .rowr ..=>false
 | .appr ..=>false
 | _=>true
theorem fe_val {op:AOp} {d:Nat} {v:V} (hn:plainOp op=true) (h:valOp cE F S op=some (.ret v)):freeEff cE ⟨some d,op,none⟩ F S=some [(d,v)]:=by
 cases op with
 | mv k x =>
  cases k with
  | true=>cases hn
  | false=>simp [freeEff,wanted,h,outs]
 | ld k n g x =>
  cases k with
  | true=>cases hn
  | false=>simp [freeEff,wanted,h,outs]
 | al z=>cases hn
 | app e n b x y=>cases hn
 | st n x y=>cases hn
 | call f xs=>cases hn
 | callw f xs=>cases hn
 | _=>simp [freeEff,wanted,h,outs]
theorem ce_val {op:AOp} {d:Nat} {v:V} (hn:plainOp op=true) (h:valOp (fun _ _ _=>none) F S0 op=some (.ret v)) (ht:tame v=true):chnEff cE C D S0 ⟨some d,op,none⟩ F S=some ([(d,v)],S):=by
 have h1:isMk ⟨some d,op,none⟩=false:=by cases op<;>first | rfl | cases hn
 have h2:isCall ⟨some d,op,none⟩=false:=by cases op<;>first | rfl | cases hn
 have h3:isTk D ⟨some d,op,none⟩ F=false:=by
  unfold isTk
  split
  ·rename_i hop
   simp only at hop
   subst hop
   cases hn
  ·rfl
 unfold chnEff
 rw [if_neg (by simp [h1]),if_neg (by simp [h2]),if_neg (by simp [h3]),fe_val hn h]
 simp [ht]
theorem ce_app {e n b d s:Nat} {y:Opd} {v w:V} (h:appOf F e n b (.t s) y=some v) (ht:tame v=true) (hw:strip (F s)=w) (hs:tame (F s)=true):chnEff cE C D S0 ⟨some d, .app e n b (.t s) y,none⟩ F S=some ([(s,w),(d,v)],S):=by
 subst hw
 have h3:isTk D ⟨some d, .app e n b (.t s) y,none⟩ F=false:=by unfold isTk; split<;>simp_all
 unfold chnEff
 rw [if_neg (by simp [isMk]),if_neg (by simp [isCall]),if_neg (by simp [h3])]
 simp [freeEff,wanted,h,unownW,outs,ht,tame_strip hs]
theorem chnK_plain:∀ {os:List AOper} {F:Fr} {S:St},os.all (fun o=>plainOp o.op||(match o.op with | .app ..=>true | _=>false))=true→chnK S0 os F S=none
 | [],_,_,_=>rfl
 | o::os,F,S,h=>by
  simp only [List.all_cons,Bool.and_eq_true] at h
  obtain ⟨d,op,gd⟩:=o
  have h1:isMk ⟨d,op,gd⟩=false:=by
   cases op<;>first | rfl | simp [plainOp] at h
  simp only [chnK,h1,Bool.false_eq_true,if_false]
  split
  ·rename_i heq
   split at heq
   ·simp [plainOp] at h
   ·cases heq
  ·split
   ·exact chnK_plain h.2
   ·rfl
theorem chnK_go {op:AOp} {d:Nat} {v:V} (hn:plainOp op=true) (h:valOp (fun _ _ _=>none) F S0 op=some (.ret v)):chnK S0 (⟨some d,op,none⟩::os) F S=chnK S0 os (put F d v) S:=by
 have h1:isMk ⟨some d,op,none⟩=false:=by cases op<;>first | rfl | cases hn
 simp only [chnK,h1,Bool.false_eq_true,if_false]
 split
 ·rename_i heq
  split at heq
  ·cases hn
  ·cases heq
 ·rw [fe_val hn h]; rfl
theorem Wk_take {d0 d1 d2 d3 d4 p l i e:Nat} {rows:List (List V)} {cs:List V} {rest:List AOper} (hd:d0≠0∧d1≠d2∧d2≠d3) (hr:rest.all (fun o=>plainOp o.op||(match o.op with | .app ..=>true | _=>false))=true)
  (h0:F 0=.ptr l i 0) (hcs:getBox S l i=some cs) (hp:cs[p]?=some (grown e rows))
  (h:∀ (cE:CE) (C:Option (St×St)) (D:Option (Nat×Nat×Option Nat)) (S0:St),(∀ l' i', ¬ (l'=l∧i'=i)→getBox S0 l' i'=getBox S l' i') →
   chnL cE C D S0 rest (put (put (put (put (put F d0 (.ptr l i 0)) d1 (.ptr l i 0)) d2 (.ptr l i 0)) d3 (.ptr l i p)) d4 (grown e rows)) (setBox S l i (cs.set p (.slice (nk rows.isEmpty) rows)))=some (F1,S1))
  (k:Wk E (.s bs) ks F1 S1 Q):Wk E (.s (.chn (⟨some d0, .mv false (.t 0),none⟩::⟨some d1, .mv false (.t 0),none⟩::⟨some d2, .nc (.t d1),none⟩::⟨some d3, .fa p (.t d2),none⟩::⟨some d4, .ld true 1 false (.t d3),none⟩::rest)::bs)) ks F S Q:=by
 refine Wk_chn ⟨0,fun j _=>?_⟩ k
 obtain ⟨hd0,hd1,hd2⟩:=hd
 have v0:∀ S,valOp (fun _ _ _=>none) F S (.mv false (.t 0))=some (.ret (.ptr l i 0)):=fun S=>by simp [valOp,evO,h0,cp,strip]
 have v1:∀ S,valOp (fun _ _ _=>none) (put F d0 (.ptr l i 0)) S (.mv false (.t 0))=some (.ret (.ptr l i 0)):=fun S=>by simp [valOp,evO,put,Ne.symm hd0,h0,cp,strip]
 have v2:∀ S,valOp (fun _ _ _=>none) (put (put F d0 (.ptr l i 0)) d1 (.ptr l i 0)) S (.nc (.t d1))=some (.ret (.ptr l i 0)):=fun S=>by simp [valOp,evO,put]
 have v3:∀ S,valOp (fun _ _ _=>none) (put (put (put F d0 (.ptr l i 0)) d1 (.ptr l i 0)) d2 (.ptr l i 0)) S (.fa p (.t d2))=some (.ret (.ptr l i p)):=fun S=>by simp [valOp,evO,put]
 have e4:evO (put (put (put (put F d0 (.ptr l i 0)) d1 (.ptr l i 0)) d2 (.ptr l i 0)) d3 (.ptr l i p)) (.t d3)=.ptr l i p:=by simp [evO,put]
 have hlt:=(List.getElem?_eq_some_iff.1 hp).1
 cases rows with
 | nil =>
  have hself:setBox S l i (cs.set p (.slice (nk ([]:List (List V)).isEmpty) []))=S:=by
   have:cs.set p (.slice (nk ([]:List (List V)).isEmpty) [])=cs:=by
    have h1:=(List.getElem?_eq_some_iff.1 hp).2
    have h2:(V.slice (nk ([]:List (List V)).isEmpty) [])=cs[p]:=by rw [h1]; rfl
    rw [h2,List.set_getElem_self]
   rw [this]; exact setBox_self hcs
  rw [hself] at h
  have hown:ownAt S (.ptr l i p)=none:=by simp only [ownAt,hcs,Option.bind_some,hp]; rfl
  have vl:valOp (fun _ _ _=>none) (put (put (put (put F d0 (.ptr l i 0)) d1 (.ptr l i 0)) d2 (.ptr l i 0)) d3 (.ptr l i p)) S (.ld false 1 false (.t d3))=some (.ret (.slice .nil [])):=by
   have hcut:cutL cs p 1=some [.slice .nil []]:=by
    unfold cutL
    rw [if_pos (by omega), ← List.getElem_cons_drop hlt]
    have h1:=(List.getElem?_eq_some_iff.1 hp).2
    rw [h1]; rfl
   simp only [valOp,e4,hcs,Option.bind_some,hcut]
   rfl
  have fl:freeEff (fun _ _ _=>none) ⟨some d4, .ld true 1 false (.t d3),none⟩ (put (put (put (put F d0 (.ptr l i 0)) d1 (.ptr l i 0)) d2 (.ptr l i 0)) d3 (.ptr l i p)) S=some [(d4, .slice .nil [])]:=by
   simp only [freeEff,wanted,e4,hcs,Option.bind_some,hp,vl]
   rfl
  have hD:chnK S (⟨some d0, .mv false (.t 0),none⟩::⟨some d1, .mv false (.t 0),none⟩::⟨some d2, .nc (.t d1),none⟩::⟨some d3, .fa p (.t d2),none⟩::⟨some d4, .ld true 1 false (.t d3),none⟩::rest) F S=none:=by
   rw [chnK_go rfl (v0 S),chnK_go rfl (v1 S),chnK_go rfl (v2 S),chnK_go rfl (v3 S)]
   simp only [chnK,isMk,Bool.false_eq_true,if_false,e4,hown,fl]
   exact chnK_plain hr
  unfold chnB
  rw [hD]
  refine chnL_go (ce_val rfl (v0 _) rfl) (chnL_go (ce_val rfl (v1 _) rfl) (chnL_go (ce_val rfl (v2 _) rfl) (chnL_go (ce_val rfl (v3 _) rfl) (chnL_go (ws:=[(d4, .slice .nil [])]) (S2:=S) ?_ (h _ _ _ _ fun _ _ _=>rfl)))))
  simp only [chnEff,isMk,isCall,isTk,Bool.false_eq_true,if_false]
  simp only [puts,without]
  rw [fl]
  rfl
 | cons r0 rs =>
  rw [grown_cons] at hp h
  have hown:ownAt S (.ptr l i p)=some (l,i,some p):=by simp only [ownAt,hcs,Option.bind_some,hp]
  have hD:chnK S (⟨some d0, .mv false (.t 0),none⟩::⟨some d1, .mv false (.t 0),none⟩::⟨some d2, .nc (.t d1),none⟩::⟨some d3, .fa p (.t d2),none⟩::⟨some d4, .ld true 1 false (.t d3),none⟩::rest) F S=some (l,i,some p):=by
   rw [chnK_go rfl (v0 S),chnK_go rfl (v1 S),chnK_go rfl (v2 S),chnK_go rfl (v3 S)]
   simp only [chnK,isMk,Bool.false_eq_true,if_false,e4,hown]
  unfold chnB
  rw [hD]
  refine chnL_go (ce_val rfl (v0 _) rfl) (chnL_go (ce_val rfl (v1 _) rfl) (chnL_go (ce_val rfl (v2 _) rfl) (chnL_go (ce_val rfl (v3 _) rfl) (chnL_go (ws:=[(d4, .slice (.own e) (r0::rs))]) (S2:=setBox S l i (cs.set p (.slice (nk (r0::rs).isEmpty) (r0::rs)))) ?_ (h _ _ _ _ fun l' i' hne=>getBox_off hne)))))
  simp only [puts]
  simp only [chnEff,isMk,isCall,isTk,Bool.false_eq_true,if_false,e4,Nat.beq_refl,Bool.and_self,if_true,tkEff,hcs,Option.bind_some,hp,outs]
  rfl
end
end Wp
end AM
end Go.Proofs.YtimfbnojmdnlnaaGreat
end
section
namespace Go.Proofs.YtimfbnojmdnlnaaGreat
namespace AM
namespace Wp
section
variable {E:Env} {F:Fr} {U:St} {A B:List (List V)} {Q:Ex→Fr→St→Prop} {bs:List Blk} {ks:List KI} {c:Rc} {st e:Int} {ins:List Ins} {evs:List Ev}
theorem app_ins {l:List Ins} {i:Ins} (h:l.length≤1000000000):appO 91 2 32 (grown 91 (l.map encIns)) (.slice (.own 91) [encIns i])=some (grown 91 ((l++[i]).map encIns)):=by
 rw [List.map_append]
 exact appO_grown (by simp [allLen,encIns]) (by simp; omega) (by simp; omega)
theorem app_ev {l:List Ev} {i:Ev} (h:l.length≤1000000000):appO 94 6 64 (grown 94 (l.map encEv)) (.slice (.own 94) [encEv i])=some (grown 94 ((l++[i]).map encEv)):=by
 rw [List.map_append]
 exact appO_grown (by simp [allLen,encEv]) (by simp; omega) (by simp; omega)
theorem ins_blk {lv j:Nat} {i:Ins} (h0:F 0=.ptr 0 c.mi 0) (h8:F 8=.ptr lv j 0) (hlv:lv≠0) (hm:bget B c.mi=some (rcells c st e ins evs)) (hi:getBox (⟨A,none⟩::rb U B) lv j=some (encIns i)) (hl:ins.length≤1000000000)
  (k:Wk E (.s bs) ks (put (put (put (put (put (put (put (put (put F 28 (.ptr 0 c.mi 0)) 29 (.ptr 0 c.mi 0)) 30 (.ptr 0 c.mi 0)) 31 (.ptr 0 c.mi 10)) 32 (grown 91 (ins.map encIns))) 33 (.agg (encIns i))) 34 (.slice (.own 91) [encIns i])) 32 (.slice (nk (ins.map encIns).isEmpty) (ins.map encIns))) 35 (grown 91 ((ins++[i]).map encIns)))
   (⟨A,none⟩::rb U (bset B c.mi (rcw c st e (grown 94 (evs.map encEv)) (.slice (nk (ins.map encIns).isEmpty) (ins.map encIns))))) Q) :
  Wk E (.s (.chn [⟨some 28, .mv false (.t 0),none⟩,⟨some 29, .mv false (.t 0),none⟩,⟨some 30, .nc (.t 29),none⟩,⟨some 31, .fa 10 (.t 30),none⟩,⟨some 32, .ld true 1 false (.t 31),none⟩,⟨some 33, .ld false 2 true (.t 8),none⟩,⟨some 34, .row 91 2 [(.t 33)],none⟩,⟨some 35, .app 91 2 32 (.t 32) (.t 34),none⟩]::bs)) ks F (⟨A,none⟩::rb U B) Q:=by
 refine Wk_take (l:=0) (i:=c.mi) (e:=91) (rows:=ins.map encIns) (by decide) rfl h0 (by rw [getBox_rbu]; exact hm) rfl (fun cE C D S0 hS0=>?_) k
 rw [setBox_rbu]
 have hb:=(hS0 lv j (by omega)).trans hi
 refine chnL_go (ce_val (v:=.agg (encIns i)) rfl (by simp [valOp,evO,put,h8,hb,cutL,encIns,ofCells,strip]) rfl) (chnL_go (ce_val (v:=.slice (.own 91) [encIns i]) rfl (by simp [valOp,rows,cellsOf,evO,put,puts,encIns,strip,lowL,low]) rfl)
  (chnL_go (ce_app (v:=grown 91 ((ins++[i]).map encIns)) (w:=.slice (nk (ins.map encIns).isEmpty) (ins.map encIns)) (app_ins hl) tame_grown strip_grown tame_grown) rfl))
theorem ev_blk {lv j u:Nat} {i:Ins} {a k v:Int} (h0:F 0=.ptr 0 c.mi 0) (h8:F 8=.ptr lv j 0) (h5:F 5=.ptr lv u 0) (h11:F 11=.int .i64 k) (h10:F 10=.int .i64 v) (hlv:lv≠0) (hm:bget B c.mi=some (rcells c st e ins evs)) (hi:getBox (⟨A,none⟩::rb U B) lv j=some (encIns i))
  {s:Stm} (hs:getBox (⟨A,none⟩::rb U B) lv u=some (encStm s)) (ha:s.target.a=a) (hl:evs.length≤1000000000)
  (hk:Wk E (.s bs) ks (put (put (put (put (put (put (put (put (put (put (put (put (put (put (put F 75 (.ptr 0 c.mi 0)) 76 (.ptr 0 c.mi 0)) 77 (.ptr 0 c.mi 0)) 78 (.ptr 0 c.mi 9)) 79 (grown 94 (evs.map encEv))) 80 (.agg (encIns i))) 81 (.ptr lv u 8)) 82 (.ptr lv u 8)) 83 (.int .i64 a)) 84 (.int .i64 k)) 85 (.int .i64 v)) 86 (.agg (encEv (Ev.mk i 0 a k v)))) 87 (.slice (.own 94) [encEv (Ev.mk i 0 a k v)])) 79 (.slice (nk (evs.map encEv).isEmpty) (evs.map encEv))) 88 (grown 94 ((evs++[(Ev.mk i 0 a k v)]).map encEv)))
   (⟨A,none⟩::rb U (bset B c.mi (rcw c st e (.slice (nk (evs.map encEv).isEmpty) (evs.map encEv)) (grown 91 (ins.map encIns))))) Q) :
  Wk E (.s (.chn [⟨some 75, .mv false (.t 0),none⟩,⟨some 76, .mv false (.t 0),none⟩,⟨some 77, .nc (.t 76),none⟩,⟨some 78, .fa 9 (.t 77),none⟩,⟨some 79, .ld true 1 false (.t 78),none⟩,⟨some 80, .ld false 2 true (.t 8),none⟩,⟨some 81, .fa 8 (.t 5),none⟩,⟨some 82, .fa 0 (.t 81),none⟩,⟨some 83, .ld false 1 false (.t 82),none⟩,⟨some 84, .mv false (.t 11),none⟩,⟨some 85, .mv false (.t 10),none⟩,
   ⟨some 86, .bld [.int .i64 0, .slice .nil [], .int .i64 0, .int .i64 0, .int .i64 0, .int .i64 0] [(0,2,(.t 80)),(3,1,(.t 83)),(4,1,(.t 84)),(5,1,(.t 85))],none⟩,⟨some 87, .row 94 6 [(.t 86)],none⟩,⟨some 88, .app 94 6 64 (.t 79) (.t 87),none⟩]::bs)) ks F (⟨A,none⟩::rb U B) Q:=by
 refine Wk_take (l:=0) (i:=c.mi) (e:=94) (rows:=evs.map encEv) (by decide) rfl h0 (by rw [getBox_rbu]; exact hm) rfl (fun cE C D S0 hS0=>?_) hk
 rw [setBox_rbu]
 have hb:=(hS0 lv j (by omega)).trans hi
 have hc:=(hS0 lv u (by omega)).trans hs
 have hcut:cutL (encStm s) 8 1=some [.int .i64 a]:=by subst ha; cases s; rfl
 refine chnL_go (ce_val (v:=.agg (encIns i)) rfl (by simp [valOp,evO,put,h8,hb,cutL,encIns,ofCells,strip]) rfl) ?_
 refine chnL_go (ce_val (v:=.ptr lv u 8) rfl (by simp [valOp,evO,put,puts,h5]) rfl) ?_
 refine chnL_go (ce_val (v:=.ptr lv u 8) rfl (by simp [valOp,evO,put,puts]) rfl) ?_
 refine chnL_go (ce_val (v:=.int .i64 a) rfl (by simp [valOp,evO,put,puts,hc,hcut,ofCells,strip]) rfl) ?_
 refine chnL_go (ce_val (v:=.int .i64 k) rfl (by simp [valOp,evO,put,puts,h11,cp,strip]) rfl) ?_
 refine chnL_go (ce_val (v:=.int .i64 v) rfl (by simp [valOp,evO,put,puts,h10,cp,strip]) rfl) ?_
 refine chnL_go (ce_val (v:=.agg (encEv (Ev.mk i 0 a k v))) rfl (by simp [valOp,fill,evO,put,puts,encIns,encEv,strip,cellsOf,isCell,setAt]) rfl) ?_
 refine chnL_go (ce_val (v:=.slice (.own 94) [encEv (Ev.mk i 0 a k v)]) rfl (by simp [valOp,rows,cellsOf,evO,put,puts,encEv,strip,lowL,low]) rfl) ?_
 exact chnL_go (ce_app (v:=grown 94 ((evs++[(Ev.mk i 0 a k v)]).map encEv)) (w:=.slice (nk (evs.map encEv).isEmpty) (evs.map encEv)) (app_ev hl) tame_grown strip_grown tame_grown) rfl
theorem rd_blk {lv j u l2 i2:Nat} {i:Ins} {pos k v:Int} (h0:F 0=.ptr 0 c.mi 0) (h8:F 8=.ptr lv j 0) (h6:F 6=.ptr lv u 0) (h4:F 4=.ptr l2 i2 0) (h11:F 11=.int .i64 k) (h13:F 13=.int .i64 v) (hlv:lv≠0) (hl2:l2≠0) (hm:bget B c.mi=some (rcells c st e ins evs)) (hi:getBox (⟨A,none⟩::rb U B) lv j=some (encIns i))
  (hp:getBox (⟨A,none⟩::rb U B) l2 i2=some [.int .i64 pos]) {x:Exp} (hs:getBox (⟨A,none⟩::rb U B) lv u=some (encExp x)) (hl:evs.length≤1000000000)
  (hk:Wk E (.s bs) ks (put (put (put (put (put (put (put (put (put (put (put (put (put (put (put (put (put (put F 63 (.ptr 0 c.mi 0)) 64 (.ptr 0 c.mi 0)) 65 (.ptr 0 c.mi 0)) 66 (.ptr 0 c.mi 9)) 67 (grown 94 (evs.map encEv))) 68 (.agg (encIns i))) 69 (.ptr l2 i2 0)) 70 (.ptr l2 i2 0)) 71 (.int .i64 pos)) 72 (.ptr lv u 4)) 73 (.ptr lv u 4)) 74 (.int .i64 x.r.a)) 75 (.int .i64 k)) 76 (.int .i64 v)) 77 (.agg (encEv (Ev.mk i pos x.r.a k v)))) 78 (.slice (.own 94) [encEv (Ev.mk i pos x.r.a k v)])) 67 (.slice (nk (evs.map encEv).isEmpty) (evs.map encEv))) 79 (grown 94 ((evs++[(Ev.mk i pos x.r.a k v)]).map encEv)))
   (⟨A,none⟩::rb U (bset B c.mi (rcw c st e (.slice (nk (evs.map encEv).isEmpty) (evs.map encEv)) (grown 91 (ins.map encIns))))) Q) :
  Wk E (.s (.chn [⟨some 63, .mv false (.t 0),none⟩,⟨some 64, .mv false (.t 0),none⟩,⟨some 65, .nc (.t 64),none⟩,⟨some 66, .fa 9 (.t 65),none⟩,⟨some 67, .ld true 1 false (.t 66),none⟩,⟨some 68, .ld false 2 true (.t 8),none⟩,⟨some 69, .mv false (.t 4),none⟩,⟨some 70, .nc (.t 69),none⟩,⟨some 71, .ld false 1 false (.t 70),none⟩,⟨some 72, .fa 4 (.t 6),none⟩,⟨some 73, .fa 0 (.t 72),none⟩,⟨some 74, .ld false 1 false (.t 73),none⟩,⟨some 75, .mv false (.t 11),none⟩,⟨some 76, .mv false (.t 13),none⟩,
   ⟨some 77, .bld [.int .i64 0, .slice .nil [], .int .i64 0, .int .i64 0, .int .i64 0, .int .i64 0] [(0,2,(.t 68)),(2,1,(.t 71)),(3,1,(.t 74)),(4,1,(.t 75)),(5,1,(.t 76))],none⟩,⟨some 78, .row 94 6 [(.t 77)],none⟩,⟨some 79, .app 94 6 64 (.t 67) (.t 78),none⟩]::bs)) ks F (⟨A,none⟩::rb U B) Q:=by
 refine Wk_take (l:=0) (i:=c.mi) (e:=94) (rows:=evs.map encEv) (by decide) rfl h0 (by rw [getBox_rbu]; exact hm) rfl (fun cE C D S0 hS0=>?_) hk
 rw [setBox_rbu]
 have hb:=(hS0 lv j (by omega)).trans hi
 have hc:=(hS0 lv u (by omega)).trans hs
 have hd:=(hS0 l2 i2 (by omega)).trans hp
 have hcut:cutL (encExp x) 4 1=some [.int .i64 x.r.a]:=by cases x; rfl
 refine chnL_go (ce_val (v:=.agg (encIns i)) rfl (by simp [valOp,evO,put,h8,hb,cutL,encIns,ofCells,strip]) rfl) ?_
 refine chnL_go (ce_val (v:=.ptr l2 i2 0) rfl (by simp [valOp,evO,put,puts,h4,cp,strip]) rfl) ?_
 refine chnL_go (ce_val (v:=.ptr l2 i2 0) rfl (by simp [valOp,evO,put,puts]) rfl) ?_
 refine chnL_go (ce_val (v:=.int .i64 pos) rfl (by simp [valOp,evO,put,puts,hd,cutL,ofCells,strip]) rfl) ?_
 refine chnL_go (ce_val (v:=.ptr lv u 4) rfl (by simp [valOp,evO,put,puts,h6]) rfl) ?_
 refine chnL_go (ce_val (v:=.ptr lv u 4) rfl (by simp [valOp,evO,put,puts]) rfl) ?_
 refine chnL_go (ce_val (v:=.int .i64 x.r.a) rfl (by simp [valOp,evO,put,puts,hc,hcut,ofCells,strip]) rfl) ?_
 refine chnL_go (ce_val (v:=.int .i64 k) rfl (by simp [valOp,evO,put,puts,h11,cp,strip]) rfl) ?_
 refine chnL_go (ce_val (v:=.int .i64 v) rfl (by simp [valOp,evO,put,puts,h13,cp,strip]) rfl) ?_
 refine chnL_go (ce_val (v:=.agg (encEv (Ev.mk i pos x.r.a k v))) rfl (by simp [valOp,fill,evO,put,puts,encIns,encEv,strip,cellsOf,isCell,setAt]) rfl) ?_
 refine chnL_go (ce_val (v:=.slice (.own 94) [encEv (Ev.mk i pos x.r.a k v)]) rfl (by simp [valOp,rows,cellsOf,evO,put,puts,encEv,strip,lowL,low]) rfl) ?_
 exact chnL_go (ce_app (v:=grown 94 ((evs++[(Ev.mk i pos x.r.a k v)]).map encEv)) (w:=.slice (nk (evs.map encEv).isEmpty) (evs.map encEv)) (app_ev hl) tame_grown strip_grown tame_grown) rfl
end
end Wp
end AM
end Go.Proofs.YtimfbnojmdnlnaaGreat
end
section
namespace Go.Proofs.YtimfbnojmdnlnaaGreat
namespace AM
namespace Wp
def setU:St→Nat→Nat→List V→St
 | [],_,_,_=>[]
 | L::S,l,i,cs=>if l=S.length+1 then { L with bs:=L.bs.set i cs }::S else L::setU S l i cs
theorem setBox_hi {B:List (List V)} {l i:Nat} {v:List V} (h:l≠0):∀ {U:St},setBox (rb U B) l i v=rb (setU U l i v) B
 | []=>by simp [rb,setBox,setU,h]
 | T::U=>by
  rw [rb_up]
  simp only [setBox,setU,rb_len]
  split
  ·rfl
  ·rw [setBox_hi h (U:=U)]; rfl
theorem lt_rb {U:St} {B:List (List V)} {l i:Nat} {cs:List V} (h:getBox (rb U B) l i=some cs):l < U.length+1:=by
 have:=getBox_lt h
 rwa [rb_len] at this
theorem setU_up {T:Lev} {U:St} {l i:Nat} {v:List V} (h:l < U.length+1):setU (T::U) l i v=T::setU U l i v:=by
 simp only [setU]; rw [if_neg (by omega)]
theorem setU_top {A:List (List V)} {lp:Option Lp} {U:St} {i:Nat} {v:List V}:setU (⟨A,lp⟩::U) (U.length+1) i v=⟨bset A i v,lp⟩::U:=by simp [setU,bset]
theorem setU_setU {l i:Nat} {v w:List V}:∀ {U:St},setU (setU U l i v) l i w=setU U l i w
 | []=>rfl
 | T::U=>by
  have hlen:∀ {U:St},(setU U l i v).length=U.length:=by
   intro U
   induction U with
   | nil=>rfl
   | cons T U ih=>simp only [setU]; split<;>simp [ih]
  simp only [setU]
  split
  ·rename_i h
   simp only [setU,h,if_true,List.set_set]
  ·rename_i h
   simp only [setU,hlen,h,if_false,setU_setU (U:=U)]
theorem setU_len {l i:Nat} {v:List V}:∀ {U:St},(setU U l i v).length=U.length
 | []=>rfl
 | T::U=>by simp only [setU]; split<;>simp [setU_len (U:=U)]
theorem setU_self {U:St} {l i:Nat} {cs:List V} (hl:l≠0) (h:∀ B,getBox (rb U B) l i=some cs):setU U l i cs=U:=by
 have h1:=setBox_self (h [])
 rw [setBox_hi hl] at h1
 unfold rb at h1
 exact List.append_cancel_right h1
theorem getU_set {U:St} {l i:Nat} {cs v:List V} (hl:l≠0) (hv:dz (some v)=some v) (h:∀ B,getBox (rb U B) l i=some cs):∀ B,getBox (rb (setU U l i v) B) l i=some v:=fun B=>by
 rw [← setBox_hi hl]; exact getBox_set hv (h B)
def ValQ (c:Rc) (U:St) (lp ip:Nat) (st:Int) (rows:List (List Int)) (ins:List Ins) (evs:List Ev) (r:Option Int×Int×List Ev):Out→St→Prop:=fun o S'=>∃ B',S'=rb (setU U lp ip [.int .i64 r.2.1]) B'∧RI c st rows (if r.1.isSome=true then 0 else 6) ins (evs++r.2.2) B'∧∃ n:Int,o=.ret (.int .i64 n)∧∀ v,r.1=some v→n=v
variable {U:St} {T:Lev} {B A:List (List V)} {c:Rc} {st:Int} {rows:List (List Int)} {ins:List Ins} {evs:List Ev}
theorem rvalue_err {x:List Int} {b:Bool} {e:Exp} {i:Ins} {lp ip:Nat} {e0:Int} (he:e0≠0) (h:RI c st rows e0 ins evs B) :
  CallIs theEnv (.fn 159) [.ptr 0 c.mi 0, .agg (encExp e), .slice (nk b) (x.map encI), .agg (encIns i), .ptr lp ip 0] (rb U B) (.ret (.int .i64 0)) (rb U B):=by
 have hm:=h.m
 refine CallIs.fn rfl rfl rfl ?_
 simp only [a159,c159,go_sem,simprocAttr,hm,rcells,rcw,encIns,he]
theorem cut_ins {i:Ins}:cutV [V.int .i64 i.stm, .slice .shut (i.x.map encI)] 0 2 true=some (.agg [V.int .i64 i.stm, .slice .shut (i.x.map encI)]):=rfl
theorem cnt_ev {mem:List (List Int)} {sh:List Shape} {x:List Int} {i:Ins}:∀ (e:Exp) (pos:Int),(exprT mem sh x i e pos).2.2.length≤cntE e:=by
 refine Exp.ind fun e ih pos=>?_
 rw [exprT_eq]
 have h1:1≤cntE e:=by cases e; simp [cntE]
 split
 ·simp
 ·split
  ·simp
  ·split
   ·split
    ·simp
    ·split
     ·simp
     ·simpa using h1
   ·have key:∀ (es:List Exp) (pos:Int),(∀ y∈es, ∀ pos,(exprT mem sh x i y pos).2.2.length≤cntE y)→(exprsT mem sh x i es pos).2.2.length≤cntEs es:=by
     intro es
     induction es with
     | nil=>intro pos _; simp [exprsT]
     | cons y es ih2 =>
      intro pos h
      have h2:=h y (by simp) pos
      rw [exprsT,cntEs]
      match hv:exprT mem sh x i y pos with
      | (none,p,l) =>
       rw [hv] at h2
       simp only at h2 ⊢
       omega
      | (some v,p,l) =>
       rw [hv] at h2
       have h3:=ih2 p fun z hz=>h z (List.mem_cons_of_mem _ hz)
       simp only [List.length_append] at h2 ⊢
       omega
    have:=key e.args pos ih
    simp only
    have h4:cntEs e.args≤cntE e:=by cases e; simp [cntE]
    omega
theorem valQ_mk {lp ip:Nat} {r:Option Int×Int×List Ev} {o:Out} {S':St} (B':List (List V)) (n:Int) (h1:S'=rb (setU U lp ip [.int .i64 r.2.1]) B') (h2:RI c st rows (if r.1.isSome=true then 0 else 6) ins (evs++r.2.2) B') (h3:o=.ret (.int .i64 n)) (h4:∀ v,r.1=some v→n=v):ValQ c U lp ip st rows ins evs r o S':=⟨B',h1,h2,n,h3,h4⟩
theorem dz_int {k:IntKind} {n:Int}:dz (some [V.int k n])=some [V.int k n]:=rfl
theorem rvalue_run {x:List Int} (hxl:x.length≤LIM) {b:Bool} {i:Ins} (hdry:c.dry=false):∀ {e:Exp},OkX c.sh x.length e→OkExp e→∀ {U:St} {B:List (List V)} {lp ip:Nat} {pos:Int} {evs:List Ev},RI c st rows 0 ins evs B→lp≠0→(∀ B,getBox (rb U B) lp ip=some [.int .i64 pos])→evs.length+cntE e≤1000000000 →
  CallQ theEnv (.fn 159) [.ptr 0 c.mi 0, .agg (encExp e), .slice (nk b) (x.map encI), .agg (encIns i), .ptr lp ip 0] (rb U B) (ValQ c U lp ip st rows ins evs (exprT rows c.sh x i e pos)):=by
 intro e he
 induction he with
 | @num e h =>
  intro ho U B lp ip pos evs hR hlp hq hcnt
  have hm:=hR.m
  refine CallQ.fn rfl rfl rfl ?_
  rw [exprT_eq]
  simp only [a159,c159,go_sem,simprocAttr,hm,rcells,rcw,encIns,h,at1_Exp]
  exact valQ_mk B _ (by rw [setU_self hlp hq]) (by simpa using hR) rfl (by simp)
 | @aff e h hl =>
  intro ho U B lp ip pos evs hR hlp hq hcnt
  have hm:=hR.m
  refine CallQ.fn rfl rfl rfl ?_
  rw [exprT_eq]
  simp only [a159,c159,go_sem,simprocAttr,hm,rcells,rcw,encIns,h,(value_ok ho.l' hl hxl).call,(rwrap_ok _).call]
  exact valQ_mk B _ (by rw [setU_self hlp hq]) (by simpa using hR) rfl (by simp)
 | @read e h hr =>
  intro ho U B lp ip pos evs hR hlp hq hcnt
  have hm:=hR.m
  obtain ⟨a,s,ha,hs,hl,hc⟩:=hr
  have hqT:=fun T=>getBox_up (T:=T) (hq B)
  have hsT:=fun T v=>setBox_up (T:=T) (v:=v) (hq B)
  have hlt:=lt_rb (hq B)
  refine CallQ.fn rfl rfl rfl ?_
  rw [exprT_eq]
  simp only [a159,c159,go_sem,simprocAttr,hm,rcells,rcw,encIns,h,hqT,hsT,setBox_hi hlp]
  have hq1:=getU_set (v:=[.int .i64 (wi (pos+1))]) hlp dz_int hq
  have hlen:=setU_len (U:=U) (l:=lp) (i:=ip) (v:=[.int .i64 (wi (pos+1))])
  have hfin:∀ r:Option Int×Int×List Ev, ∀ o S',r.2.1=wi (pos+1)→ValQ c (setU U lp ip [.int .i64 (wi (pos+1))]) lp ip st rows ins evs r o S'→ValQ c U lp ip st rows ins evs r o S':=by
   rintro r o S' hr ⟨B',h1,h2⟩
   exact ⟨B',by rw [h1,setU_setU],h2⟩
  have e1:IntKind.i64.wrap (pos+1)=wi (pos+1):=rfl
  rw [e1]
  clear hqT hsT
  revert hq1 hlen hfin
  generalize setU U lp ip [.int .i64 (wi (pos+1))]=U1
  intro hq1 hlen hfin
  rw [← hlen]
  have hcell:=rcell_run (U:=⟨[encExp e,encIns i],none⟩::U1) (b:=b) ho.r' hm hxl ha hs hl hc
  rw [rb_up,rb_up] at hcell
  simp only [encIns] at hcell
  simp only [go_sem,simprocAttr]
  rw [CallP hcell sx sx]
  simp only [go_sem,simprocAttr]
  rw [Run_if]
  have hsz:(c.sh[e.r.a.toNat]?).elim [] (·.sizes)=s.sizes:=by rw [show e.r.a.toNat=a from by omega,hs]; rfl
  rw [hsz]
  cases hcv:cellV x e.r.subs s.sizes 0 with
  | none =>
   have hR':=hR.set st 6 ins evs
   simp only [Option.isSome_none,Bool.false_eq_true,if_false,go_sem,simprocAttr]
   refine hfin _ _ _ rfl (valQ_mk (bset B c.mi (rcells c st 6 ins evs)) 0 ?_ ?_ rfl (by simp))
   ·rw [setU_self hlp hq1]
   ·simpa using hR'
  | some k =>
   obtain ⟨row,kk,y,g1,rfl,g3,g4⟩:=(hR.r hdry).2.rd ha hs hl hcv
   obtain ⟨oi,ri,r1,r2,r3,r4,_⟩:=(hR.r hdry).1.wr 0 g1 g3
   rw [getBox_one] at r2 r4
   have r5:onBox (bget B ri) kk 1 false=some (.int .i64 y):=by rw [r4]; exact cut_ints g3
   simp only [Option.isSome_some,Option.getD_some,if_true,go_sem,simprocAttr,hm,rcells,rcw,(hR.r hdry).1.cp,ha,r1,r2,r3,r5]
   refine rd_blk (c:=c) (st:=st) (e:=0) (ins:=ins) (evs:=evs) (lv:=U1.length+1) (j:=1) (u:=0) (l2:=lp) (i2:=ip) (i:=i) (pos:=wi (pos+1)) (k:=kk) (v:=y) (x:=e) sx sx sx sx sx sx (by omega) hlp hm (by simp only [go_sem,simprocAttr,encIns]) (getBox_up (hq1 B)) sx (by omega) ?_
   have hms:=bget_set (v:=rcw c st 0 (.slice (nk (evs.map encEv).isEmpty) (evs.map encEv)) (grown 91 (ins.map encIns))) hm rfl
   have hbb:=fun w=>bset_bset (B:=B) (i:=c.mi) (v:=rcw c st 0 (.slice (nk (evs.map encEv).isEmpty) (evs.map encEv)) (grown 91 (ins.map encIns))) (w:=w)
   revert hms hbb
   generalize bset B c.mi (rcw c st 0 (.slice (nk (evs.map encEv).isEmpty) (evs.map encEv)) (grown 91 (ins.map encIns)))=B2
   intro hms hbb
   simp only [go_sem,simprocAttr,hms,rcw]
   have hrr:((rows[((a:Nat):Int).toNat]?).bind fun row=>row[((kk:Nat):Int).toNat]?)=some y:=by simp [g1,g3]
   rw [hrr,hbb,ha]
   exact hfin _ _ _ rfl (valQ_mk (bset B c.mi (rcells c st 0 ins (evs++[Ev.mk i (wi (pos+1)) a kk y]))) y (by rw [setU_self hlp hq1]; rfl) (hR.set st 0 ins _) rfl (by simp))
 | @bin e p1 p2 h1 h2 ha hp1 hp2 ih1 ih2 =>
  intro ho U B lp ip pos evs hR hlp hq hcnt
  have n0:e.op≠0:=by omega
  have n1:e.op≠1:=by omega
  have n2:e.op≠2:=by omega
  have h5:e.op=3∨e.op=4∨e.op=5∨e.op=6∨e.op=7:=by omega
  have o1:OkExp p1:=ho.s' p1 (by rw [ha]; simp)
  have o2:OkExp p2:=ho.s' p2 (by rw [ha]; simp)
  have hm:=hR.m
  have hlt:=lt_rb (hq B)
  have hce:cntE e=1+(cntE p1+(cntE p2+0)):=by
   cases e; simp only at ha; subst ha; simp only [cntE,cntEs]
  have hih:=ih1 o1 (U:=⟨[encExp e,encIns i],none⟩::U) hR hlp (fun B=>getBox_up (hq B)) (by omega)
  have hc1:=cnt_ev (mem:=rows) (sh:=c.sh) (x:=x) (i:=i) p1 pos
  refine CallQ.fn rfl rfl rfl ?_
  rw [exprT_eq]
  simp only [a159,c159,go_sem,simprocAttr,hm,rcells,rcw,encIns,n0,n1,n2,ha,exprsT,cut_ins]
  rcases hv1:exprT rows c.sh x i p1 pos with ⟨_ | v1,pos1,l1⟩
  ·rw [hv1] at hih
   refine CallPQ hih sx sx ?_
   rintro o S' ⟨B1,rfl,hR1,m1,rfl,_⟩
   rw [setU_up hlt,rb_up]
   have hlen:=setU_len (U:=U) (l:=lp) (i:=ip) (v:=[.int .i64 pos1])
   have hfin:∀ (r:Option Int×Int×List Ev) (B':List (List V)),r.2.1=pos1→rb (setU U lp ip [.int .i64 pos1]) B'=rb (setU U lp ip [.int .i64 r.2.1]) B':=fun r B' h=>by rw [h]
   revert hlen hfin
   simp only
   generalize setU U lp ip [.int .i64 pos1]=U1
   intro hlen hfin
   rw [← hlen]
   have herr:=rvalue_err (U:=⟨[encExp e,encIns i],none⟩::U1) (x:=x) (b:=b) (e:=p2) (i:=i) (lp:=lp) (ip:=ip) (e0:=6) (by decide) (by simpa using hR1)
   rw [rb_up] at herr
   simp only [encIns] at herr
   simp only [go_sem,simprocAttr,ha,encIns,cut_ins]
   rw [CallP herr sx sx]
   rcases h5 with h5 | h5 | h5 | h5 | h5
   all_goals
    simp only [go_sem,simprocAttr,h5,(rwrap_ok _).call]
    exact valQ_mk B1 _ (hfin (_,pos1,l1) B1 rfl) (by simpa [bin2] using hR1) rfl (by simp [bin2])
  ·rw [hv1] at hih
   refine CallPQ hih sx sx ?_
   rintro o S' ⟨B1,rfl,hR1,m1,rfl,hm1⟩
   obtain rfl:=hm1 v1 rfl
   rw [setU_up hlt,rb_up]
   have hlen:=setU_len (U:=U) (l:=lp) (i:=ip) (v:=[.int .i64 pos1])
   have hq1:=getU_set (v:=[.int .i64 pos1]) hlp dz_int hq
   have hfin:∀ w,setU (setU U lp ip [.int .i64 pos1]) lp ip [.int .i64 w]=setU U lp ip [.int .i64 w]:=fun w=>setU_setU
   revert hlen hfin hq1
   simp only
   generalize setU U lp ip [.int .i64 pos1]=U1
   intro hlen hq1 hfin
   rw [← hlen]
   rw [hv1] at hc1
   have hR1':RI c st rows 0 ins (evs++l1) B1:=by simpa using hR1
   have hih2:=ih2 o2 (U:=⟨[encExp e,encIns i],none⟩::U1) hR1' hlp (fun B=>getBox_up (hq1 B)) (by simp only [List.length_append] at hc1 ⊢; omega)
   have hlt1:=lt_rb (hq1 B)
   simp only [go_sem,simprocAttr,ha,encIns,cut_ins]
   rcases hv2:exprT rows c.sh x i p2 pos1 with ⟨v2,pos2,l2⟩
   rw [hv2] at hih2
   refine CallPQ hih2 sx sx ?_
   rintro o S' ⟨B2,rfl,hR2,m2,rfl,hm2⟩
   rw [setU_up hlt1,rb_up]
   have hlen2:=setU_len (U:=U1) (l:=lp) (i:=ip) (v:=[.int .i64 pos2])
   have hf2:=hfin pos2
   revert hlen2 hf2
   simp only
   generalize setU U1 lp ip [.int .i64 pos2]=U2
   intro hlen2 hf2
   rw [← hlen2]
   rcases h5 with h5 | h5 | h5 | h5 | h5
   all_goals
    simp only [go_sem,simprocAttr,h5,(rwrap_ok _).call]
    cases v2 with
    | none=>exact valQ_mk B2 _ (by rw [hf2]) (by simpa [bin2,List.append_assoc] using hR2) rfl (by simp [bin2])
    | some w =>
     obtain rfl:=hm2 w rfl
     refine valQ_mk B2 _ (by rw [hf2]) (by simpa [bin2,List.append_assoc] using hR2) rfl ?_
     simp [bin2,opV,wi]
end Wp
end AM
end Go.Proofs.YtimfbnojmdnlnaaGreat
end
section
namespace Go.Proofs.YtimfbnojmdnlnaaGreat
namespace AM
namespace Wp
variable {U:St} {T:Lev} {B A:List (List V)} {c:Rc} {st:Int} {rows:List (List Int)} {ins:List Ins} {evs:List Ev}
def EndT (c:Rc) (t:Tr) (ins:List Ins) (evs:List Ev) (B:List (List V)):Prop:=match t.r with
 | .ok st rows=>RI c st rows 0 (ins++t.i) (evs++t.l) B
 | .pan e=>∃ st rows,e≠0∧RI c st rows e (ins++t.i) (evs++t.l) B
def TrQ (c:Rc) (U:St) (ins:List Ins) (evs:List Ev) (t:Tr):Out→St→Prop:=fun o S'=>∃ B',S'=rb U B'∧o=.ret (.tup [])∧EndT c t ins evs B'
theorem trQ_ok {t:Tr} {B':List (List V)} {st':Int} {rows':List (List Int)} (h1:t.r=.ok st' rows') (h2:RI c st' rows' 0 (ins++t.i) (evs++t.l) B'):TrQ c U ins evs t (.ret (.tup [])) (rb U B'):=⟨B',rfl,rfl,by unfold EndT; rw [h1]; exact h2⟩
theorem trQ_pan {t:Tr} {B':List (List V)} {st' e:Int} {rows':List (List Int)} (h1:t.r=.pan e) (he:e≠0) (h2:RI c st' rows' e (ins++t.i) (evs++t.l) B'):TrQ c U ins evs t (.ret (.tup [])) (rb U B'):=⟨B',rfl,rfl,by unfold EndT; rw [h1]; exact ⟨_,_,he,h2⟩⟩
theorem app3 {k:SK} {l:List Int} (h:l.length≤1000000000):appO 3 1 8 (.slice (.own 3) []) (.slice k (l.map encI))=some (.slice (.own 3) (l.map encI)):=by
 have:=appO_own (e:=3) (n:=1) (b:=8) (k:=k) (xs:=[]) (ys:=l.map encI) (lens_I _) (by simp; omega) (by simp; omega)
 simpa using this
theorem cut_two {n:Int} {l:List (List V)}:cutV [V.int .i64 n, .slice .shut l] 0 2 true=some (.agg [V.int .i64 n, .slice .shut l]):=rfl
theorem cut_lo {b:Bool} {x:List Int} {n:Nat} (h:n≤x.length):cutO 1 (.slice (nk b) (x.map encI)) (some (.int .i64 (n:Int))) none=some (.slice (cutKind (nk b)) ((x.drop n).map encI)):=by
 simp only [cutO,lens_I,if_true,ondH,ondO,natIn,Option.bind_some,List.length_map]
 rw [if_pos (by omega)]
 simp [List.take_of_length_le]
theorem rassign_run {x:List Int} {b:Bool} (hx1:x.length≤1000) {s:Stm} (hs:OkStm s) (hv:c.dry=false→OkX c.sh x.length s.value∧OkRf c.sh x.length s.target) (hnp:c.p.params.length≤x.length) (num:Int) (h:RI c st rows 0 ins evs B) (hci:ins.length+1≤1000000000) (hce:evs.length+cntE s.value+1≤1000000000) :
  CallQ theEnv (.fn 135) [.ptr 0 c.mi 0, .agg (encStm s), .slice (nk b) (x.map encI), .int .i64 num] (rb U B) (TrQ c U ins evs (assignT c.sh c.p.params.length c.dry s x num st rows)):=by
 have hm:=h.m
 have hxl:x.length≤LIM:=Nat.le_trans hx1 (by decide)
 refine CallQ.fn rfl rfl rfl ?_
 have hst:=rstep_run (U:=⟨[encStm s],none⟩::U) h
 rw [rb_up,rb_up] at hst
 simp only [a135,c135,go_sem,simprocAttr]
 rw [CallP hst sx sx]
 simp only [go_sem,simprocAttr]
 rw [Run_if]
 by_cases h1:st=65536
 ·have e1:stepB st=false:=by simp [stepB,h1]
  simp only [e1,h1,if_true,go_sem,simprocAttr]
  refine trQ_pan (st':=st) (rows':=rows) (e:=3) (by simp [assignT,Tr.bind,stepT,stepV]) (by decide) ?_
  have:(assignT c.sh c.p.params.length c.dry s x num 65536 rows).i=[]∧(assignT c.sh c.p.params.length c.dry s x num 65536 rows).l=[]:=by constructor<;>simp [assignT,Tr.bind,stepT,stepV]
  rw [this.1,this.2,List.append_nil,List.append_nil, ← h1]
  exact h.set st 3 ins evs
 ·have e1:stepB st=true:=by simp [stepB,h1]
  have hR1:=h.set (wi (st+1)) 0 ins evs
  have e2:assignT c.sh c.p.params.length c.dry s x num st rows=(if c.dry=true then ⟨.ok (wi (st+1)) rows,[⟨num,x.drop c.p.params.length⟩],[]⟩ else
   match exprT rows c.sh x ⟨num,x.drop c.p.params.length⟩ s.value 0 with
   | (none,_,l)=>⟨.pan 6,[⟨num,x.drop c.p.params.length⟩],l⟩
   | (some v,_,l)=>match cellV x s.target.subs ((c.sh[s.target.a.toNat]?).elim [] (·.sizes)) 0 with
    | none=>⟨.pan 6,[⟨num,x.drop c.p.params.length⟩],l⟩
    | some k=>⟨.ok (wi (st+1)) (writeV rows s.target.a.toNat k.toNat v),[⟨num,x.drop c.p.params.length⟩],l++[⟨⟨num,x.drop c.p.params.length⟩,0,s.target.a,k,v⟩]⟩):=by
   have e3:stepT st rows=⟨.ok (wi (st+1)) rows,[],[]⟩:=by simp [stepT,stepV,h1]
   unfold assignT
   rw [e3]; rfl
  rw [e2]
  simp only [e1,h1,if_false]
  revert hR1
  generalize bset B c.mi (rcells c (wi (st+1)) 0 ins evs)=B1
  intro hR1
  have hm1:=hR1.m
  have ha:=app3 (k:=cutKind (nk b)) (l:=x.drop c.p.params.length) (by simp; omega)
  simp only [go_sem,simprocAttr,hm1,rcells,rcw,cut_lo hnp,ha]
  refine ins_blk (c:=c) (st:=wi (st+1)) (e:=0) (ins:=ins) (evs:=evs) (lv:=U.length+1) (j:=1) (i:=⟨num,x.drop c.p.params.length⟩) sx sx (by omega) hm1 (by simp only [go_sem,simprocAttr,encIns]) (by omega) ?_
  have hms:=bget_set (v:=rcw c (wi (st+1)) 0 (grown 94 (evs.map encEv)) (.slice (nk (ins.map encIns).isEmpty) (ins.map encIns))) hm1 rfl
  have hbb:=fun w=>bset_bset (B:=B1) (i:=c.mi) (v:=rcw c (wi (st+1)) 0 (grown 94 (evs.map encEv)) (.slice (nk (ins.map encIns).isEmpty) (ins.map encIns))) (w:=w)
  revert hms hbb
  generalize bset B1 c.mi (rcw c (wi (st+1)) 0 (grown 94 (evs.map encEv)) (.slice (nk (ins.map encIns).isEmpty) (ins.map encIns)))=B2
  intro hms hbb
  have hR3:=hR1.set (wi (st+1)) 0 (ins++[⟨num,x.drop c.p.params.length⟩]) evs
  simp only [go_sem,simprocAttr,hms,rcw]
  have e5:bset B2 c.mi (rcells c (wi (st+1)) 0 (ins++[⟨num,x.drop c.p.params.length⟩]) evs)=bset B1 c.mi (rcells c (wi (st+1)) 0 (ins++[⟨num,x.drop c.p.params.length⟩]) evs):=hbb _
  conv at e5=>lhs; simp only [rcells,rcw]
  rw [e5]
  clear e5
  revert hR3
  generalize bset B1 c.mi (rcells c (wi (st+1)) 0 (ins++[⟨num,x.drop c.p.params.length⟩]) evs)=B3
  intro hR3
  have hm3:=hR3.m
  simp only [go_sem,simprocAttr,hm3,rcells,rcw]
  rw [Run_if]
  simp only [go_sem,simprocAttr]
  cases hdry:c.dry with
  | true =>
   simp only [go_sem,simprocAttr]
   exact trQ_ok rfl (by simpa using hR3)
  | false =>
   obtain ⟨hvx,a,sp,ha,hsp,hl,hc⟩:=hv hdry
   simp only [go_sem,simprocAttr]
   have hih:=rvalue_run (U:=⟨[encStm s,encIns ⟨num,x.drop c.p.params.length⟩,[.int .i64 0]],none⟩::U) (B:=B3) (lp:=U.length+1) (ip:=2) (pos:=0) (b:=b) (i:=⟨num,x.drop c.p.params.length⟩) hxl hdry hvx hs.value' hR3 (by omega) (fun B=>by rw [rb_up,getBox_rbt]; rfl) (by omega)
   rcases hv1:exprT rows c.sh x ⟨num,x.drop c.p.params.length⟩ s.value 0 with ⟨v1,pos1,l1⟩
   rw [hv1] at hih
   simp only [go_sem,simprocAttr,cut_two]
   refine CallPQ hih sx sx ?_
   rintro o S' ⟨B4,rfl,hR4,m1,rfl,hmm⟩
   rw [setU_top,rb_up]
   have e6:∀ w,bset [encStm s,encIns ⟨num,x.drop c.p.params.length⟩,[V.int .i64 0]] 2 w=[encStm s,encIns ⟨num,x.drop c.p.params.length⟩,w]:=fun _=>rfl
   rw [e6]
   have hm4:=hR4.m
   simp only [go_sem,simprocAttr,hm4,rcells,rcw,encIns]
   cases v1 with
   | none =>
    simp only [Option.isSome_none,Bool.false_eq_true,if_false,go_sem,simprocAttr]
    exact trQ_pan rfl (by decide) hR4
   | some v =>
    obtain rfl:=hmm v rfl
    simp only [Option.isSome_some,if_true] at hR4 hm4
    simp only [Option.isSome_some,if_true,go_sem,simprocAttr]
    have hcell:=rcell_run (U:=⟨[encStm s,encIns ⟨num,x.drop c.p.params.length⟩,[.int .i64 pos1]],none⟩::U) (b:=b) hs.target' hm4 hxl ha hsp hl hc
    rw [rb_up,rb_up] at hcell
    simp only [encIns] at hcell
    rw [CallP hcell sx sx]
    have e1:s.target.a.toNat=a:=by omega
    simp only [go_sem,simprocAttr,e1,hsp,Option.elim]
    cases hcv:cellV x s.target.subs sp.sizes 0 with
    | none =>
     have hR5:=hR4.set (wi (st+1)) 6 (ins++[⟨num,x.drop c.p.params.length⟩]) (evs++l1)
     simp only [Option.isSome_none,Bool.false_eq_true,if_false,go_sem,simprocAttr]
     exact trQ_pan rfl (by decide) hR5
    | some k =>
     obtain ⟨row,kk,y,g1,rfl,g3,_⟩:=(hR4.r hdry).2.rd ha hsp hl hcv
     have hlk:=(List.getElem?_eq_some_iff.1 g3).1
     obtain ⟨oi,ri,w1,w2,w3,w4,w5⟩:=(hR4.r hdry).1.wr m1 g1 g3
     rw [getBox_one] at w2 w4
     rw [setBox_one] at w5
     have hst:∀ y,setAt (ints row) kk [.int .i64 y]=ints (row.set kk y):=fun y=>ints_setAt hlk
     have hle:kk+1≤(ints row).length:=by rw [ints_len]; exact hlk
     have hne:c.mi≠ri:=by
      rintro rfl
      rw [hm4] at w4
      have h8:=congrArg List.head? (Option.some.inj w4)
      cases row<;>simp [ints,rcells,rcw] at h8
     have hR5:RI c (wi (st+1)) (writeV rows a kk m1) 0 (ins++[⟨num,x.drop c.p.params.length⟩]) (evs++l1) (bset B4 ri (ints (row.set kk m1))) :=
      ⟨by rw [bget_ne hne]; exact hm4,fun _=>⟨w5,(hR4.r hdry).2.wr⟩,hR4.b.1,barest_set (barest_one (bareL_ints _)) hR4.b.2⟩
     have hm4':=hm4
     simp only [rcells,rcw] at hm4'
     simp only [Option.isSome_some,Option.getD_some,if_true,go_sem,simprocAttr,hm4',(hR4.r hdry).1.cp,ha,w1,w2,w3,w4,hst,hle]
     have hc1:=cnt_ev (mem:=rows) (sh:=c.sh) (x:=x) (i:=⟨num,x.drop c.p.params.length⟩) s.value 0
     rw [hv1] at hc1
     simp only at hc1
     have hm5:=hR5.m
     revert hR5 hm5
     generalize bset B4 ri (ints (row.set kk m1))=B5
     intro hR5 hm5
     refine ev_blk (c:=c) (st:=wi (st+1)) (e:=0) (ins:=ins++[⟨num,x.drop c.p.params.length⟩]) (evs:=evs++l1) (lv:=U.length+1) (j:=1) (u:=0) (i:=⟨num,x.drop c.p.params.length⟩) (a:=(a:Int)) (k:=kk) (v:=m1) (s:=s) sx sx sx sx sx (by omega) hm5 (by simp only [go_sem,simprocAttr,encIns]) sx ha (by rw [List.length_append]; omega) ?_
     have hms:=bget_set (v:=rcw c (wi (st+1)) 0 (.slice (nk ((evs++l1).map encEv).isEmpty) ((evs++l1).map encEv)) (grown 91 ((ins++[Ins.mk num (x.drop c.p.params.length)]).map encIns))) hm5 rfl
     have hbb:=fun w=>bset_bset (B:=B5) (i:=c.mi) (v:=rcw c (wi (st+1)) 0 (.slice (nk ((evs++l1).map encEv).isEmpty) ((evs++l1).map encEv)) (grown 91 ((ins++[Ins.mk num (x.drop c.p.params.length)]).map encIns))) (w:=w)
     revert hms hbb
     generalize bset B5 c.mi (rcw c (wi (st+1)) 0 (.slice (nk ((evs++l1).map encEv).isEmpty) ((evs++l1).map encEv)) (grown 91 ((ins++[Ins.mk num (x.drop c.p.params.length)]).map encIns)))=B6
     intro hms hbb
     simp only [go_sem,simprocAttr,hms,rcw]
     rw [hbb]
     have hR6:=hR5.set (wi (st+1)) 0 (ins++[⟨num,x.drop c.p.params.length⟩]) (evs++l1++[Ev.mk ⟨num,x.drop c.p.params.length⟩ 0 a kk m1])
     have e7:((kk:Nat):Int).toNat=kk:=by simp
     rw [e7]
     refine trQ_ok rfl ?_
     rw [← List.append_assoc]
     exact hR6
end Wp
end AM
end Go.Proofs.YtimfbnojmdnlnaaGreat
end
section
namespace Go.Proofs.YtimfbnojmdnlnaaGreat
namespace AM
namespace Wp
def tapp (i:List Ins) (l:List Ev) (t:Tr):Tr:=⟨t.r,i++t.i,l++t.l⟩
theorem tapp_nil (t:Tr):tapp [] [] t=t:=rfl
theorem tapp_ok {i:List Ins} {l:List Ev} {t:Tr} {K:Int→List (List Int)→Tr} {st:Int} {rows:List (List Int)} (h:t.r=.ok st rows):tapp i l (t.bind K)=tapp (i++t.i) (l++t.l) (K st rows):=by
 unfold Tr.bind; rw [h]; simp [tapp]
theorem tapp_pan {i:List Ins} {l:List Ev} {t:Tr} {K:Int→List (List Int)→Tr} {e:Int} (h:t.r=.pan e):tapp i l (t.bind K)=⟨.pan e,i++t.i,l++t.l⟩:=by
 unfold Tr.bind; rw [h]; rfl
theorem bind_assoc {t:Tr} {f g:Int→List (List Int)→Tr}:(t.bind f).bind g=t.bind fun st rows=>(f st rows).bind g:=by
 obtain ⟨r,i,l⟩:=t
 unfold Tr.bind
 cases r with
 | pan e=>rfl
 | ok st rows =>
  simp only
  cases (f st rows).r with
  | pan e=>rfl
  | ok st2 rows2=>simp only [List.append_assoc]
theorem step_ok {st:Int} {rows:List (List Int)} {K:Int→List (List Int)→Tr} (h:¬ st=65536):(stepT st rows).bind K=K (wi (st+1)) rows:=by
 have e3:stepT st rows=⟨.ok (wi (st+1)) rows,[],[]⟩:=by simp [stepT,stepV,h]
 rw [e3]; rfl
theorem step_pan {rows:List (List Int)} {K:Int→List (List Int)→Tr}:(stepT 65536 rows).bind K=⟨.pan 3,[],[]⟩:=rfl
def Bnd (st:Int) (ins:List Ins) (evs:List Ev):Prop:=0≤st∧st≤65536∧(ins.length:Int)≤st∧(evs.length:Int)≤65*st
def TB (st:Int) (t:Tr):Prop:=∀ st' rows',t.r=.ok st' rows'→st≤st'∧st'≤65536∧(t.i.length:Int)≤st' - st∧(t.l.length:Int)≤65*(st' - st)
theorem Bnd.app {st st':Int} {rows':List (List Int)} {ins:List Ins} {evs:List Ev} {t:Tr} (h:Bnd st ins evs) (ht:TB st t) (hr:t.r=.ok st' rows'):Bnd st' (ins++t.i) (evs++t.l):=by
 obtain ⟨h1,h2,h3,h4⟩:=h
 obtain ⟨k1,k2,k3,k4⟩:=ht _ _ hr
 refine ⟨by omega,k2,?_,?_⟩
 ·rw [List.length_append]; omega
 ·rw [List.length_append]; omega
theorem TB.bind {st:Int} {t:Tr} {K:Int→List (List Int)→Tr} (h:TB st t) (h0:0≤st) (hk:∀ st' rows',0≤st'→st'≤65536→TB st' (K st' rows')):TB st (t.bind K):=by
 intro st2 rows2 h2
 unfold Tr.bind at h2 ⊢
 cases hr:t.r with
 | pan e=>rw [hr] at h2; cases h2
 | ok st' rows' =>
  rw [hr] at h2
  obtain ⟨k1,k2,k3,k4⟩:=h _ _ hr
  obtain ⟨m1,m2,m3,m4⟩:=hk st' rows' (by omega) k2 _ _ h2
  simp only [List.length_append]
  exact ⟨by omega,m2,by omega,by omega⟩
theorem tb_pan {st e:Int} {i:List Ins} {l:List Ev}:TB st ⟨.pan e,i,l⟩:=fun _ _ h=>by cases h
theorem tb_ok {st:Int} {rows:List (List Int)} (h:st≤65536):TB st ⟨.ok st rows,[],[]⟩:=fun _ _ h'=>by
 simp only [Rs.ok.injEq] at h'
 obtain ⟨rfl,_⟩:=h'
 simp; omega
inductive OkCt:Stm→Prop
 | loop {s:Stm} (h:s.kind=1) (hb:∀ t∈s.body,OkCt t):OkCt s
 | test {s:Stm} (h:s.kind=2) (hb:∀ t∈s.body,OkCt t) (he:∀ t∈s.els,OkCt t):OkCt s
 | asg {s:Stm} (h1:s.kind≠1) (h2:s.kind≠2) (hc:cntE s.value≤64):OkCt s
theorem tb_asg {sh:List Shape} {np:Nat} {dry:Bool} {s:Stm} {x:List Int} {num st:Int} {rows:List (List Int)} (h0:0≤st) (h1:st≤65536) (hc:cntE s.value≤64):TB st (assignT sh np dry s x num st rows):=by
 unfold assignT
 by_cases h:st=65536
 ·subst h; rw [step_pan]; exact tb_pan
 ·rw [step_ok h]
  have hw:wi (st+1)=st+1:=wi_id (by omega) (by omega)
  have hcn:=cnt_ev (mem:=rows) (sh:=sh) (x:=x) (i:=⟨num,x.drop np⟩) s.value 0
  split
  ·intro st' rows' hr
   simp only [Rs.ok.injEq] at hr
   obtain ⟨rfl,_⟩:=hr
   simp [hw]; omega
  ·match hv:exprT rows sh x ⟨num,x.drop np⟩ s.value 0 with
   | (none,p,l)=>exact tb_pan
   | (some v,p,l) =>
    rw [hv] at hcn
    simp only at hcn ⊢
    split
    ·exact tb_pan
    ·intro st' rows' hr
     simp only [Rs.ok.injEq] at hr
     obtain ⟨rfl,_⟩:=hr
     simp [hw]; omega
theorem tb_loop {f:Int→Int→List (List Int)→Tr} (hf:∀ v st rows,0≤st→st≤65536→TB st (f v st rows)) (step high:Int):∀ (n:Nat) (v st:Int) (rows:List (List Int)),0≤st→st≤65536→TB st (loopT f step high n v st rows)
 | 0,_,_,_,_,h1=>tb_ok h1
 | n+1,v,st,rows,h0,h1=>by
  rw [loopT]
  split
  ·by_cases h:st=65536
   ·subst h; rw [step_pan]; exact tb_pan
   ·rw [step_ok h]
    have hw:wi (st+1)=st+1:=wi_id (by omega) (by omega)
    rw [hw]
    have hb:=(hf v (st+1) rows (by omega) (by omega)).bind (K:=fun st rows=>loopT f step high n (wi (v+step)) st rows) (by omega) fun st' rows' k0 k1=>tb_loop hf step high n _ st' rows' k0 k1
    intro st' rows' hr
    obtain ⟨m1,m2,m3,m4⟩:=hb _ _ hr
    exact ⟨by omega,m2,by omega,by omega⟩
  ·exact tb_ok h1
theorem tb_list {sh:List Shape} {np:Nat} {dry:Bool}:∀ (l:List Stm),(∀ s∈l, ∀ x num st rows,0≤st→st≤65536→TB st (stmT sh np dry s x num st rows))→∀ x num st rows,0≤st→st≤65536→TB st (bodyT sh np dry l x num st rows)
 | [],_,_,_,_,_,_,h1=>by rw [bodyT]; exact tb_ok h1
 | s::l,h,x,num,st,rows,h0,h1=>by
  rw [bodyT]
  exact (h s (by simp) x num st rows h0 h1).bind h0 fun st' rows' k0 k1=>tb_list l (fun t ht=>h t (List.mem_cons_of_mem _ ht)) x _ st' rows' k0 k1
theorem tb_stm {sh:List Shape} {np:Nat} {dry:Bool}:∀ (s:Stm),OkCt s→∀ x num st rows,0≤st→st≤65536→TB st (stmT sh np dry s x num st rows):=by
 refine Stm.ind fun s ihb ihe hc x num st rows h0 h1=>?_
 rw [stmT_eq]
 cases hc with
 | loop hk hb =>
  rw [if_pos hk]
  split
  ·exact tb_pan
  ·split
   ·exact tb_pan
   ·exact tb_loop (fun v st rows k0 k1=>tb_list s.body (fun t ht=>ihb t ht (hb t ht)) _ _ st rows k0 k1) _ _ _ _ _ _ h0 h1
 | test hk hb he =>
  rw [if_neg (by omega),if_pos hk]
  split
  ·exact tb_list s.body (fun t ht=>ihb t ht (hb t ht)) _ _ st rows h0 h1
  ·exact tb_list s.els (fun t ht=>ihe t ht (he t ht)) _ _ st rows h0 h1
 | asg k1 k2 hc =>
  rw [if_neg k1,if_neg k2]
  exact tb_asg h0 h1 hc
end Wp
end AM
end Go.Proofs.YtimfbnojmdnlnaaGreat
end
