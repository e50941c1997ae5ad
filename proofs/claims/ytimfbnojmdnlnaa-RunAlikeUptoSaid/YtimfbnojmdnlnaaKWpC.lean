/- Loops. What code does not write stays. -/
import Derived.Test.YtimfbnojmdnlnaaKWpB
set_option linter.all false
namespace Go.Proofs.Ytimfbnojmdnlnaa
namespace AM
namespace Wp
def wrO (o:AOper):List Nat:=(match o.dst with | some d=>[d] | none=>[])++(match o.op with | .mv true (.t s)=>[s] | .app _ _ _ (.t s) _=>[s] | .appb _ _ _ (.t s) _=>[s] | .appr _ _ _ (.t s) _ _=>[s] | .st _ _ (.t s)=>[s] | _=>[])
def wrF (o:AOper):List Nat:=wrO o++(match o.op with | .st _ (.t s) _=>[s] | _=>[])
def wrB:Blk→List Nat
 | .seq o=>wrO o
 | .free os=>os.flatMap wrF
 | .fre os=>os.flatMap wrF
 | .chn os=>os.flatMap wrF
def wrC:ACode→List Nat
 | .reg bs=>bs.flatMap wrB
 | .seq a b=>wrC a++wrC b
 | .cond _ a b=>wrC a++wrC b
 | .blk _ a=>wrC a
 | .loop a=>wrC a
 | _=>[]
theorem putO_other {F:Fr} {d:Option Nat} {v:V} {t:Nat} (h:∀ x,d=some x→t≠x):putO F d v t=F t:=by
 cases d with
 | none=>rfl
 | some d=>exact put_miss (h d rfl)
theorem unown_other {F:Fr} {x:Opd} {t:Nat} (h:∀ s,x=.t s→t≠s):unown F x t=F t:=by
 cases x with
 | c v=>rfl
 | t s=>exact put_miss (h s rfl)
theorem back_keeps {F F1:Fr} {S1:St} {d:Option Nat} {o:Option (Out×St)} (h:back F d o=some (.ok F1 S1)):∃ v,F1=putO F d v:=by
 unfold back at h
 split at h
 ·cases h; exact ⟨_,rfl⟩
 ·cases h
 ·cases h
theorem seqOp_keeps {cE:CE} {d:Option Nat} {op:AOp} {F F1:Fr} {S S1:St} (h:seqOp cE d op F S=some (.ok F1 S1)) {t:Nat} (ht:t ∉ wrO ⟨d,op,none⟩):F1 t=F t:=by
 have hd:∀ x,d=some x→t≠x:=by
  rintro x rfl rfl
  exact ht (by simp [wrO])
 have key:∀ {v:V},F1=putO F d v→F1 t=F t:=fun e=>by rw [e]; exact putO_other hd
 have val:∀ {op':AOp},(match valOp cE F S op' with | some (.ret v)=>some (OR.ok (putO F d v) S) | _=>none)=some (.ok F1 S1)→F1 t=F t:=by
  intro op' h
  split at h
  ·cases h; exact key rfl
  ·cases h
 cases op with
 | mv k x=>cases k with
  | false=>exact val h
  | true=>cases x with
   | t s =>
    simp only [seqOp] at h
    split at h<;>cases h
    rw [putO_other hd,put_miss]
    rintro rfl
    exact ht (by simp [wrO])
   | c v=>simp only [seqOp] at h; cases h; exact key rfl
 | al z =>
  simp only [seqOp] at h
  split at h<;>cases h
  exact key rfl
 | box n x =>
  simp only [seqOp] at h
  split at h<;>try (cases h; done)
  split at h<;>cases h
  exact key rfl
 | ld k n g x=>cases k with
  | false=>exact val h
  | true =>
   simp only [seqOp] at h
   split at h
   ·split at h
    ·obtain ⟨cs,hcs,h⟩:=Option.bind_eq_some_iff.1 h
     split at h<;>cases h
     exact key rfl
    ·exact val (op':=.ld false n g x) h
   ·exact val (op':=.ld false n g x) h
 | st n x y =>
  simp only [seqOp] at h
  split at h<;>try (cases h; done)
  obtain ⟨cs,hcs,h⟩:=Option.bind_eq_some_iff.1 h
  obtain ⟨vs,hvs,h⟩:=Option.bind_eq_some_iff.1 h
  split at h<;>cases h
  rw [putO_other hd]
  refine unown_other ?_
  rintro s rfl rfl
  exact ht (by simp [wrO])
 | app e n b x y =>
  simp only [seqOp] at h
  obtain ⟨v,hv,h⟩:=Option.map_eq_some_iff.1 h
  cases h
  rw [putO_other hd]
  refine unown_other ?_
  rintro s rfl rfl
  exact ht (by simp [wrO])
 | call f xs =>
  simp only [seqOp] at h
  split at h
  ·split at h
   ·split at h<;>cases h
    exact key rfl
   ·split at h<;>cases h
   ·split at h<;>try (cases h; done)
    split at h<;>cases h
    exact key rfl
   ·cases h
  ·split at h<;>try (cases h; done)
   obtain ⟨v,hv⟩:=back_keeps h
   exact key hv
 | callv x xs =>
  simp only [seqOp] at h
  split at h
  ·split at h<;>try (cases h; done)
   obtain ⟨v,hv⟩:=back_keeps h
   exact key hv
  ·split at h<;>try (cases h; done)
   obtain ⟨v,hv⟩:=back_keeps h
   exact key hv
  ·cases h
 | inv x m xs=>exact val (op':=.inv x m xs) h
 | pan x =>
  simp only [seqOp] at h
  split at h<;>try (cases h; done)
  split at h<;>cases h
 | mk e n b z x y =>
  simp only [seqOp] at h
  split at h<;>try (cases h; done)
  split at h<;>cases h
  exact key rfl
 | appb e n b x y =>
  simp only [seqOp] at h
  obtain ⟨v,hv,h⟩:=Option.map_eq_some_iff.1 h
  cases h
  rw [putO_other hd]
  refine unown_other ?_
  rintro s rfl rfl
  exact ht (by simp [wrO])
 | rowr e n ps =>
  simp only [seqOp] at h
  split at h<;>try (cases h; done)
  split at h<;>try (cases h; done)
  obtain ⟨v,hv,h⟩:=Option.map_eq_some_iff.1 h
  cases h
  exact key rfl
 | appr e n b x y lv =>
  simp only [seqOp] at h
  split at h
  ·split at h<;>try (cases h; done)
   split at h
   ·cases h; exact key rfl
   ·obtain ⟨l,hl,h⟩:=Option.bind_eq_some_iff.1 h
    split at h<;>cases h
    rw [putO_other hd]
    refine unown_other ?_
    rintro s rfl rfl
    exact ht (by simp [wrO])
  ·split at h<;>try (cases h; done)
   obtain ⟨cs,hcs,h⟩:=Option.bind_eq_some_iff.1 h
   obtain ⟨old,ho,h⟩:=Option.bind_eq_some_iff.1 h
   split at h<;>cases h
   exact key rfl
  ·cases h
 | callw f xs =>
  simp only [seqOp] at h
  obtain ⟨args,ha,h⟩:=Option.bind_eq_some_iff.1 h
  split at h<;>try (cases h; done)
  split at h<;>try (cases h; done)
  split at h<;>cases h
  exact key rfl
 | callr f e m xs =>
  simp only [seqOp] at h
  split at h<;>try (cases h; done)
  split at h
  ·split at h<;>try (cases h; done)
   split at h<;>cases h
   exact key rfl
  ·cases h; exact key rfl
  ·split at h<;>try (cases h; done)
   obtain ⟨v',_,h⟩:=Option.bind_eq_some_iff.1 h
   split at h<;>cases h
   exact key rfl
  ·cases h
 | _=>exact val h
theorem seqOper_keeps {meth:Nat→String→Option Nat} {cE:CE} {o:AOper} {F F1:Fr} {S S1:St} (h:seqOper meth cE o F S=some (.ok F1 S1)) {t:Nat} (ht:t ∉ wrO o):F1 t=F t:=by
 obtain ⟨d,op,gd⟩:=o
 have hd:∀ x,d=some x→t≠x:=by
  rintro x rfl rfl
  exact ht (by simp [wrO])
 have ht':t ∉ wrO ⟨d,op,none⟩:=ht
 unfold seqOper at h
 split at h
 ·cases h
 ·cases h; exact putO_other hd
 ·cases op with
  | inv x m xs =>
   simp only at h
   split at h<;>try (cases h; done)
   split at h<;>try (cases h; done)
   split at h<;>try (cases h; done)
   obtain ⟨v,hv⟩:=back_keeps h
   rw [hv]; exact putO_other hd
  | _=>exact seqOp_keeps h ht'
theorem puts_other {t:Nat}:∀ {ws:List (Nat×V)} {F:Fr},(∀ q∈ws,t≠q.1)→puts ws F t=F t
 | [],_,_=>rfl
 | (d,v)::ws,F,h=>by
  simp only [puts]
  rw [puts_other fun q hq=>h q (List.mem_cons_of_mem _ hq),put_miss (h (d,v) List.mem_cons_self)]
theorem outs_fst {d:Option Nat} {v:V} {q:Nat×V} (h:q∈outs d v):d=some q.1:=by
 cases d with
 | none=>cases h
 | some d=>simp only [outs,List.mem_singleton] at h; rw [h]
theorem freeEff_keeps {cE:CE} {o:AOper} {F:Fr} {S:St} {ws:List (Nat×V)} (h:freeEff cE o F S=some ws):∀ q∈ws,q.1∈wrF o:=by
 obtain ⟨d,op,gd⟩:=o
 have hd:∀ {v:V}, ∀ q∈outs d v,q.1∈wrF ⟨d,op,gd⟩:=by
  intro v q hq
  simp [wrF,wrO,outs_fst hq]
 have key:∀ {v:V},outs d v=ws→∀ q∈ws,q.1∈wrF ⟨d,op,gd⟩:=by rintro v rfl; exact hd
 have val:∀ {op':AOp},(match valOp cE F S op' with | some (.ret v)=>some (outs d v) | _=>none)=some ws→∀ q∈ws,q.1∈wrF ⟨d,op,gd⟩:=by
  intro op' h
  split at h
  ·cases h; exact key rfl
  ·cases h
 unfold freeEff at h
 split at h
 ·cases h
 ·cases h; exact key rfl
 ·cases op with
  | mv k x=>cases k with
   | false=>exact val h
   | true=>cases x with
    | t s =>
     simp only at h
     split at h<;>cases h
     intro q hq
     rcases List.mem_cons.1 hq with rfl | hq
     ·simp [wrF,wrO]
     ·exact hd q hq
    | c v=>simp only at h; cases h; exact key rfl
  | al z=>simp only at h; cases h; exact key rfl
  | ld k n g x=>cases k with
   | false=>exact val h
   | true =>
    simp only at h
    split at h
    ·split at h
     ·split at h<;>cases h
      exact key rfl
     ·exact val (op':=.ld false n g x) h
    ·exact val (op':=.ld false n g x) h
  | app e n b x y =>
   simp only at h
   split at h<;>cases h
   intro q hq
   rcases List.mem_append.1 hq with hq | hq
   ·cases x with
    | t s=>simp only [unownW,List.mem_singleton] at hq; subst hq; simp [wrF,wrO]
    | c v=>cases hq
   ·exact hd q hq
  | box n x=>exact val (op':=.box n x) h
  | st n x y=>cases x with
   | c v=>exact val (op':=.st n (.c v) y) h
   | t s =>
    simp only at h
    split at h<;>try (cases h; done)
    split at h<;>cases h
    intro q hq
    simp only [List.mem_singleton] at hq
    subst hq
    simp [wrF]
  | call f xs =>
   simp only at h
   split at h
   ·exact val (op':=.call f xs) h
   ·split at h<;>try (cases h; done)
    split at h<;>try (cases h; done)
    split at h<;>cases h
    exact key rfl
  | callv x xs=>exact val (op':=.callv x xs) h
  | inv x m xs=>exact val (op':=.inv x m xs) h
  | pan x=>exact val (op':=.pan x) h
  | mk e n b z x y=>exact val (op':=.mk e n b z x y) h
  | appb e n b x y=>exact val (op':=.appb e n b x y) h
  | rowr e n ps=>exact val (op':=.rowr e n ps) h
  | appr e n b x y lv=>exact val (op':=.appr e n b x y lv) h
  | callw f xs =>
   simp only at h
   obtain ⟨args,_,h⟩:=Option.bind_eq_some_iff.1 h
   split at h<;>try (cases h; done)
   split at h<;>try (cases h; done)
   split at h<;>cases h
   exact key rfl
  | callr f e m xs=>exact val (op':=.callr f e m xs) h
  | _=>exact val h
theorem freeL_keeps {cE:CE} {S:St} {t:Nat}:∀ {os:List AOper} {F F1:Fr},freeL cE S os F=some F1→t ∉ os.flatMap wrF→F1 t=F t
 | [],F,F1,h,_=>by simp only [freeL] at h; cases h; rfl
 | o::os,F,F1,h,ht=>by
  simp only [freeL] at h
  obtain ⟨F2,h1,h2⟩:=Option.bind_eq_some_iff.1 h
  simp only [List.flatMap_cons,List.mem_append,not_or] at ht
  rw [freeL_keeps h2 ht.2]
  obtain ⟨ws,hws,rfl⟩:=Option.map_eq_some_iff.1 h1
  exact puts_other fun q hq=>by rintro rfl; exact ht.1 (freeEff_keeps hws q hq)
theorem settle1_keeps {o:AOper} {F:Fr} {S:St} {t:Nat} (ht:t ∉ wrO o) (hm:tame (F t)=true):(settle1 o F S).1 t=F t:=by
 unfold settle1
 have hd:∀ x,o.dst=some x→t≠x:=by
  intro x hx; rintro rfl
  exact ht (by simp [wrO,hx])
 split
 ·rfl
 ·rename_i d hd'
  split
  ·split
   ·exact put_miss (hd d hd')
   ·rfl
  ·split
   ·dsimp only
    rw [put_miss (hd d hd')]
    cases hF:F t<;>first | rfl | (rw [hF] at hm; cases hm)
   ·rfl
  ·rfl
theorem settle_keeps {t:Nat}:∀ {os:List AOper} {F:Fr} {S:St},t ∉ os.flatMap wrF→tame (F t)=true→(settle os F S).1 t=F t
 | [],_,_,_,_=>rfl
 | o::os,F,S,ht,hm=>by
  simp only [List.flatMap_cons,List.mem_append,not_or] at ht
  have h1:=settle1_keeps (S:=S) (fun h=>ht.1 (List.mem_append_left _ h)) hm
  simp only [settle]
  rw [settle_keeps ht.2 (by rw [h1]; exact hm),h1]
theorem freeC_L {cE:CE} {os:List AOper} {F F3:Fr} {S S':St} (h:freeC cE os F S=some (F3,S')):∃ cE' S0,freeL cE' S0 os F=some F3:=by
 unfold freeC at h
 split at h<;>try (cases h; done)
 split at h<;>try (cases h; done)
 obtain ⟨F1,_,h⟩:=Option.bind_eq_some_iff.1 h
 split at h<;>try (cases h; done)
 split at h<;>try (cases h; done)
 obtain ⟨F4,h7,h8⟩:=Option.map_eq_some_iff.1 h
 injection h8 with h8 h9
 subst h8
 exact ⟨_,_,h7⟩
theorem mkEff_keeps {F:Fr} {o:AOper} {S S1:St} {ws:List (Nat×V)} {k:Option (Nat×Nat)} (h:mkEff o F S=some (ws,S1,k)):∀ q∈ws,q.1∈wrF o:=by
 obtain ⟨dst,op,gd⟩:=o
 have hout:∀ v, ∀ q∈outs dst v,q.1∈wrF ⟨dst,op,gd⟩:=fun v q hq=>by
  simp [wrF,wrO,outs_fst hq]
 cases gd with
 | some q=>cases h
 | none =>
  cases op with
  | rowr e n ps =>
   cases S with
   | nil=>cases h
   | cons T R =>
    simp only [mkEff] at h
    split at h<;>try (cases h; done)
    obtain ⟨cs,_,h2⟩:=Option.map_eq_some_iff.1 h
    injection h2 with h2 _
    subst h2; exact hout _
  | appr e n b x y lv =>
   cases lv with
   | some l=>cases h
   | none =>
    simp only [mkEff] at h
    split at h
    ·split at h<;>try (cases h; done)
     obtain ⟨l,_,h⟩:=Option.bind_eq_some_iff.1 h
     split at h<;>try (cases h; done)
     simp only [Option.some.injEq,Prod.mk.injEq] at h
     obtain ⟨h2,_⟩:=h
     subst h2
     intro q hq
     rcases List.mem_append.1 hq with hq | hq
     ·cases x with
      | t s=>simp only [unownW,List.mem_singleton] at hq; subst hq; simp [wrF,wrO]
      | c v=>simp [unownW] at hq
     ·exact hout _ q hq
    ·split at h<;>try (cases h; done)
     obtain ⟨cs,_,h⟩:=Option.bind_eq_some_iff.1 h
     obtain ⟨old,_,h⟩:=Option.bind_eq_some_iff.1 h
     split at h<;>try (cases h; done)
     simp only [Option.some.injEq,Prod.mk.injEq] at h
     obtain ⟨h2,_⟩:=h
     subst h2; exact hout _
    ·cases h
  | _=>cases h
theorem chnEff_keeps {cE:CE} {C:Option (St×St)} {D:Option (Nat×Nat×Option Nat)} {S0:St} {F:Fr} {o:AOper} {S S1:St} {ws:List (Nat×V)} (h:chnEff cE C D S0 o F S=some (ws,S1)):∀ q∈ws,q.1∈wrF o:=by
 have hout:∀ v, ∀ q∈outs o.dst v,q.1∈wrF o:=fun v q hq=>by
  simp [wrF,wrO,outs_fst hq]
 unfold chnEff at h
 split at h
 ·split at h<;>try (cases h; done)
  obtain ⟨⟨ws',S',k⟩,h1,h⟩:=Option.bind_eq_some_iff.1 h
  split at h<;>cases h
  exact mkEff_keeps h1
 ·split at h
  ·obtain ⟨ws',h1,h2⟩:=Option.map_eq_some_iff.1 h
   cases h2
   unfold clEff at h1
   split at h1<;>try (cases h1; done)
   simp only at h1
   split at h1
   ·split at h1<;>try (cases h1; done)
    split at h1<;>cases h1
    exact hout _
   ·split at h1<;>try (cases h1; done)
    split at h1<;>try (cases h1; done)
    split at h1<;>cases h1
    exact hout _
  split at h
  ·unfold tkEff at h
   split at h<;>try (cases h; done)
   obtain ⟨cs,_,h⟩:=Option.bind_eq_some_iff.1 h
   split at h<;>cases h
   exact hout _
  ·obtain ⟨ws',h1,h2⟩:=Option.bind_eq_some_iff.1 h
   split at h2<;>cases h2
   exact freeEff_keeps h1
theorem chnL_keeps {cE:CE} {C:Option (St×St)} {D:Option (Nat×Nat×Option Nat)} {S0:St} {t:Nat}:∀ {os:List AOper} {F F1:Fr} {S S1:St},chnL cE C D S0 os F S=some (F1,S1)→t ∉ os.flatMap wrF→F1 t=F t
 | [],F,F1,S,S1,h,_=>by simp only [chnL] at h; cases h; rfl
 | o::os,F,F1,S,S1,h,ht=>by
  simp only [chnL] at h
  obtain ⟨⟨ws,S2⟩,h1,h2⟩:=Option.bind_eq_some_iff.1 h
  simp only [List.flatMap_cons,List.mem_append,not_or] at ht
  rw [chnL_keeps h2 ht.2]
  exact puts_other fun q hq=>by rintro rfl; exact ht.1 (chnEff_keeps h1 q hq)
theorem blks_keeps {meth:Nat→String→Option Nat} {cE:CE} {t:Nat}:∀ {bs:List Blk} {F F1:Fr} {S S1:St} {e:Ex},blks meth cE bs F S=some (e,F1,S1)→t ∉ bs.flatMap wrB→tame (F t)=true→F1 t=F t
 | [],F,F1,S,S1,e,h,_,_=>by simp only [blks] at h; cases h; rfl
 | .seq o::bs,F,F1,S,S1,e,h,ht,hm=>by
  simp only [List.flatMap_cons,List.mem_append,not_or,wrB] at ht
  simp only [blks] at h
  split at h
  ·rename_i F2 S2 h2
   have:=seqOper_keeps h2 ht.1
   rw [blks_keeps h ht.2 (by rw [this]; exact hm),this]
  ·cases h; rfl
  ·cases h
 | .free os::bs,F,F1,S,S1,e,h,ht,hm=>by
  simp only [List.flatMap_cons,List.mem_append,not_or,wrB] at ht
  simp only [blks] at h
  split at h
  ·rename_i F2 h2
   have h3:=freeL_keeps h2 ht.1
   have h4:=settle_keeps (F:=F2) (S:=S) ht.1 (by rw [h3]; exact hm)
   rw [blks_keeps h ht.2 (by rw [h4,h3]; exact hm),h4,h3]
  ·cases h
 | .fre os::bs,F,F1,S,S1,e,h,ht,hm=>by
  simp only [List.flatMap_cons,List.mem_append,not_or,wrB] at ht
  simp only [blks] at h
  split at h
  ·rename_i F2 S2 h2
   obtain ⟨_,_,h2⟩:=freeC_L h2
   have h3:=freeL_keeps h2 ht.1
   have h4:=settle_keeps (F:=F2) (S:=S2) ht.1 (by rw [h3]; exact hm)
   rw [blks_keeps h ht.2 (by rw [h4,h3]; exact hm),h4,h3]
  ·cases h
 | .chn os::bs,F,F1,S,S1,e,h,ht,hm=>by
  simp only [List.flatMap_cons,List.mem_append,not_or,wrB] at ht
  simp only [blks] at h
  split at h
  ·rename_i F2 S2 h2
   have h3:=chnL_keeps h2 ht.1
   rw [blks_keeps h ht.2 (by rw [h3]; exact hm),h3]
  ·cases h
theorem codeN_keeps {meth:Nat→String→Option Nat} {cE:CE} {t:Nat}:∀ {k:Nat} {c:ACode} {F F1:Fr} {S S1:St} {e:Ex},codeN meth cE k c F S=some (e,F1,S1)→t ∉ wrC c→tame (F t)=true→F1 t=F t:=by
 intro k
 induction k with
 | zero=>intro c F F1 S S1 e h; simp [codeN] at h
 | succ k ih =>
  intro c F F1 S S1 e h ht hm
  simp only [codeN] at h
  cases c with
  | nop=>cases h; rfl
  | reg bs=>exact blks_keeps h ht hm
  | seq a b =>
   simp only [wrC,List.mem_append,not_or] at ht
   simp only at h
   split at h
   ·rename_i F2 S2 h2
    have:=ih h2 ht.1 hm
    rw [ih h ht.2 (by rw [this]; exact hm),this]
   ·exact ih h ht.1 hm
  | cond c a b =>
   simp only [wrC,List.mem_append,not_or] at ht
   simp only at h
   split at h
   ·exact ih h ht.1 hm
   ·exact ih h ht.2 hm
   ·cases h
  | blk id a =>
   simp only at h
   split at h
   ·rename_i j F2 S2 h2
    have:=ih h2 ht hm
    split at h<;>(cases h; exact this)
   ·exact ih h ht hm
  | loop a =>
   simp only at h
   split at h
   ·rename_i F2 S2 h2
    have:=ih h2 ht hm
    rw [ih (c:=.loop a) h ht (by rw [this]; exact hm),this]
   ·exact ih h ht hm
  | exit id=>cases h; rfl
  | ret=>cases h; rfl
  | rng x ps asg body =>
   simp only at h
   split at h<;>try (cases h; done)
   split at h<;>try (cases h; done)
   split at h<;>try (cases h; done)
   split at h<;>cases h<;>rfl
def Kept:List Nat→Fr→Fr→Prop
 | [],_,_=>True
 | t::ts,F0,F=>F t=F0 t∧Kept ts F0 F
theorem Kept.of {ts:List Nat} {F0 F:Fr} (h:∀ t∈ts,F t=F0 t):Kept ts F0 F:=by
 induction ts with
 | nil=>trivial
 | cons t ts ih=>exact ⟨h t List.mem_cons_self,ih fun u hu=>h u (List.mem_cons_of_mem _ hu)⟩
theorem Kept.get {ts:List Nat} {F0 F:Fr} (h:Kept ts F0 F):∀ t∈ts,F t=F0 t:=by
 induction ts with
 | nil=>simp
 | cons t ts ih =>
  intro u hu
  rcases List.mem_cons.1 hu with rfl | hu
  ·exact h.1
  ·exact ih h.2 u hu
def Tame:List Nat→Fr→Bool
 | [],_=>true
 | t::ts,F=>tame (F t)&&Tame ts F
theorem Tame.get {ts:List Nat} {F:Fr} (h:Tame ts F=true):∀ t∈ts,tame (F t)=true:=by
 induction ts with
 | nil=>simp
 | cons t ts ih =>
  simp only [Tame,Bool.and_eq_true] at h
  intro u hu
  rcases List.mem_cons.1 hu with rfl | hu
  ·exact h.1
  ·exact ih h.2 u hu
attribute [go_sem] Kept Tame
section
variable {E:Env} {ks:List KI} {F:Fr} {S R:St} {Q:Ex→Fr→St→Prop}
theorem EvQ_keeps {c:ACode} (h:EvQ E c F S Q):EvQ E c F S fun e F1 S1=>Q e F1 S1∧∀ t,t ∉ wrC c→tame (F t)=true→F1 t=F t:=by
 obtain ⟨⟨e,F1,S1⟩,⟨K,h1⟩,h2⟩:=h
 exact ⟨_,⟨K,h1⟩,h2,fun t ht hm=>codeN_keeps (h1 K K (Nat.le_refl _) (Nat.le_refl _)) ht hm⟩
theorem Run_of_EvQ {a:ACode} (h:EvQ E (.loop a) F S fun e F S=>RunE E ks e F S Q):Run E (.c (.loop a)::ks) F S Q:=h
theorem Run_loop {a:ACode} (ts:List Nat) (J:Nat→Fr→St→Prop) (n:Nat) (hts:(ts.all fun t=>!(wrC a).contains t)=true) (htm:Tame ts F=true) (h0:J n F S)
  (step:∀ n F1 S1,J n F1 S1→Kept ts F F1→Run E [.c a] F1 S1 fun e F2 S2=>match e with | .nrm=>∃ m,m < n∧J m F2 S2 | e=>Kept ts F F2→RunE E ks e F2 S2 Q):Run E (.c (.loop a)::ks) F S Q:=by
 refine Run_of_EvQ ?_
 refine EvQ.loop (fun n F1 S1=>J n F1 S1∧Kept ts F F1) (fun n F1 S1 hJ=>?_) n F S ⟨h0,Kept.of fun _ _=>rfl⟩
 refine (EvQ_keeps (EvQ_run (step n F1 S1 hJ.1 hJ.2))).mono fun e F2 S2 ⟨h,hk⟩=>?_
 have hkept:Kept ts F F2:=Kept.of fun t ht=>by
  have h1:=hJ.2.get t ht
  have:=List.all_eq_true.1 hts t ht
  rw [hk t (by simpa using this) (by rw [h1]; exact Tame.get htm t ht),h1]
 cases e with
 | nrm =>
  obtain ⟨m,hm,hJ'⟩:=h
  exact ⟨m,hm,hJ',hkept⟩
 | _=>exact h hkept
theorem CallQ.mono {c:Callee} {args:List V} {P P':Out→St→Prop} (h:CallQ E c args S P) (hm:∀ o S,P o S→P' o S):CallQ E c args S P':=by
 obtain ⟨o,S',h1,h2⟩:=h
 exact ⟨o,S',h1,hm _ _ h2⟩
theorem backW_mono {d:Option Nat} {ok ok':Fr→St→Prop} {pan pan':V→St→Prop} (h1:∀ F S,ok F S→ok' F S) (h2:∀ v S,pan v S→pan' v S) {o:Out} {S:St} (h:backW F d ok pan o S):backW F d ok' pan' o S:=by
 unfold backW at h ⊢
 split at h
 ·exact h1 _ _ h
 ·exact h2 _ _ h
 ·exact h.elim
theorem Wn_mono {d:Option Nat} {op:AOp} {ok ok':Fr→St→Prop} {pan pan':V→St→Prop} (h1:∀ F S,ok F S→ok' F S) (h2:∀ v S,pan v S→pan' v S) (h:Wn E d op F S ok pan):Wn E d op F S ok' pan':=by
 by_cases hv:isVal op=true
 ·rw [Wn_val hv] at h ⊢
  exact ⟨h.1,h1 _ _ h.2⟩
 ·cases op with
  | mv k x=>cases k with
   | false=>exact absurd rfl hv
   | true=>cases x with
    | t s=>exact ⟨h.1,h1 _ _ h.2⟩
    | c v=>exact h1 _ _ h
  | al z =>
   simp only [Wn] at h ⊢
   split at h
   ·exact h1 _ _ h
   ·exact h.elim
  | box n x =>
   simp only [Wn,boxK] at h ⊢
   split at h
   ·exact ⟨h.1,h1 _ _ h.2⟩
   ·exact h.elim
  | ld k n g x=>cases k with
   | false=>exact absurd rfl hv
   | true =>
    simp only [Wn,ldtK] at h ⊢
    split at h
    ·split at h
     ·exact ⟨h.1,h.2.1,h1 _ _ h.2.2⟩
     ·exact ⟨h.1,h1 _ _ h.2⟩
    ·exact ⟨h.1,h1 _ _ h.2⟩
  | st n x y =>
   simp only [Wn,stK] at h ⊢
   split at h
   ·exact ⟨h.1,h.2.1,h.2.2.1,h.2.2.2.1,h1 _ _ h.2.2.2.2⟩
   ·exact h.elim
  | app e n b x y=>exact ⟨h.1,h1 _ _ h.2⟩
  | call f xs =>
   simp only [Wn,callK] at h ⊢
   split at h
   ·rename_i hl
    rw [if_pos hl]
    refine h.mono fun o S' h=>?_
    split at h
    ·exact ⟨h.1,h1 _ _ h.2⟩
    ·exact ⟨h.1,h2 _ _ h.2⟩
    ·split at h
     ·exact ⟨h.1,h.2.1,h1 _ _ h.2.2⟩
     ·exact h.elim
   ·rename_i hl
    rw [if_neg hl]
    exact ⟨h.1,h.2.mono fun o S' h=>backW_mono h1 h2 h⟩
  | callv x xs =>
   simp only [Wn,callvK] at h ⊢
   split at h
   ·exact ⟨h.1,h.2.mono fun o S' h=>backW_mono h1 h2 h⟩
   ·exact ⟨h.1,h.2.mono fun o S' h=>backW_mono h1 h2 h⟩
   ·exact h.elim
  | inv x m xs =>
   simp only [Wn,invK] at h ⊢
   split at h
   ·obtain ⟨f,h3,h4,h5⟩:=h
    exact ⟨f,h3,h4,h5.mono fun o S' h=>backW_mono h1 h2 h⟩
   ·exact h.elim
  | pan x =>
   simp only [Wn] at h ⊢
   split at h
   ·exact ⟨h.1,h2 _ _ h.2⟩
   ·exact h.elim
  | mk e n b z x y =>
   simp only [Wn,mkK] at h ⊢
   split at h
   ·exact ⟨h.1,h.2.1,h.2.2.1,h.2.2.2.1,h.2.2.2.2.1,h1 _ _ h.2.2.2.2.2⟩
   ·exact h.elim
  | appb e n b x y=>exact ⟨h.1,h1 _ _ h.2⟩
  | rowr e n ps =>
   simp only [Wn,rowrK] at h ⊢
   split at h
   ·refine ⟨h.1,?_⟩
    have h2:=h.2
    split at h2
    ·exact h1 _ _ h2
    ·exact h2.elim
   ·exact h.elim
  | appr e n b x y lv =>
   simp only [Wn,apprK] at h ⊢
   split at h
   ·refine ⟨h.1,?_⟩
    have h2:=h.2
    split at h2
    ·exact h1 _ _ h2
    ·split at h2
     ·exact ⟨h2.1,h2.2.1,h1 _ _ h2.2.2⟩
     ·exact h2.elim
   ·refine ⟨h.1,?_⟩
    have h2:=h.2
    split at h2
    ·exact ⟨h2.1,h2.2.1,h2.2.2.1,h1 _ _ h2.2.2.2⟩
    ·exact h2.elim
   ·exact h.elim
  | callw f xs =>
   simp only [Wn,callwK] at h ⊢
   split at h
   ·refine ⟨h.1,h.2.mono fun o S' h=>?_⟩
    split at h
    ·exact ⟨h.1,h1 _ _ h.2⟩
    ·exact h.elim
   ·exact h.elim
  | callr f e m xs =>
   refine ⟨h.1,h.2.mono fun o S' h=>?_⟩
   unfold callrP at h ⊢
   split at h
   ·split at h
    ·exact ⟨h.1,h.2.1,h.2.2.1,h1 _ _ h.2.2.2⟩
    ·exact h.elim
   ·exact h1 _ _ h
   ·exact h.elim
  | _=>exact absurd rfl hv
theorem Wo_mono {o:AOper} {ok ok':Fr→St→Prop} {pan pan':V→St→Prop} (h1:∀ F S,ok F S→ok' F S) (h2:∀ v S,pan v S→pan' v S) (h:Wo E o F S ok pan):Wo E o F S ok' pan':=by
 unfold Wo at h ⊢
 split at h
 ·exact Wn_mono h1 h2 h
 ·exact ⟨h.1,fun hb=>Wn_mono h1 h2 (h.2.1 hb),fun hb=>h1 _ _ (h.2.2 hb)⟩
theorem Wb_mono {Q':Ex→Fr→St→Prop} (hm:∀ e F S,Q e F S→Q' e F S):∀ {bs:List Blk} {F:Fr} {S:St},Wb E bs F S Q→Wb E bs F S Q'
 | [],F,S,h=>hm _ _ _ h
 | .seq o::bs,F,S,h=>Wo_mono (fun F S h=>Wb_mono hm h) (fun v S h=>hm _ _ _ h) h
 | .free os::bs,F,S,h=>WfL_mono h fun F S h=>Wb_mono hm h
 | .fre os::bs,F,S,h=>by
  obtain ⟨r,h1,h2⟩:=h
  exact ⟨r,h1,hm _ _ _ h2⟩
 | .chn os::bs,F,S,h=>by
  obtain ⟨r,h1,h2⟩:=h
  exact ⟨r,h1,hm _ _ _ h2⟩
theorem W_mono:∀ {c:ACode} {F:Fr} {S:St} {Q Q':Ex→Fr→St→Prop},W E c F S Q→(∀ e F S,Q e F S→Q' e F S)→W E c F S Q'
 | .nop,F,S,Q,Q',h,hm=>hm _ _ _ h
 | .reg bs,F,S,Q,Q',h,hm=>Wb_mono hm h
 | .seq a b,F,S,Q,Q',h,hm=>W_mono (c:=a) h fun e F S h=>by cases e<;>first | exact W_mono (c:=b) h hm | exact hm _ _ _ h
 | .cond c a b,F,S,Q,Q',h,hm=>by
  simp only [W] at h ⊢
  split at h
  ·split at h
   ·rename_i ht; rw [if_pos ht]; exact W_mono h hm
   ·rename_i ht; rw [if_neg ht]; exact W_mono h hm
  ·exact h.elim
 | .blk id a,F,S,Q,Q',h,hm=>W_mono (c:=a) h fun e F S h=>by
  cases e with
  | exit j =>
   simp only at h ⊢
   split at h
   ·rename_i hj; rw [if_pos hj]; exact hm _ _ _ h
   ·rename_i hj; rw [if_neg hj]; exact hm _ _ _ h
  | _=>exact hm _ _ _ h
 | .loop a,F,S,Q,Q',h,hm=>EvQ.mono h hm
 | .exit id,F,S,Q,Q',h,hm=>hm _ _ _ h
 | .ret,F,S,Q,Q',h,hm=>hm _ _ _ h
 | .rng x ps asg body,F,S,Q,Q',h,hm=>EvQ.mono h hm
theorem RunE_mono {Q':Ex→Fr→St→Prop} (hm:∀ e F S,Q e F S→Q' e F S):∀ {ks:List KI} {e:Ex} {F:Fr} {S:St},RunE E ks e F S Q→RunE E ks e F S Q'
 | [],e,F,S,h=>hm _ _ _ h
 | .c a::ks,e,F,S,h=>by
  cases e with
  | nrm=>exact W_mono (c:=a) h fun e F S h=>RunE_mono hm h
  | _=>exact RunE_mono hm (ks:=ks) h
 | .b id::ks,e,F,S,h=>by
  cases e with
  | exit j =>
   simp only [RunE] at h ⊢
   split at h
   ·rename_i hj; rw [if_pos hj]; exact RunE_mono hm h
   ·rename_i hj; rw [if_neg hj]; exact RunE_mono hm h
  | _=>exact RunE_mono hm (ks:=ks) h
theorem Run_mono {Q':Ex→Fr→St→Prop} (h:Run E ks F S Q) (hm:∀ e F S,Q e F S→Q' e F S):Run E ks F S Q':=RunE_mono hm h
def rangeC (c i j n id:Nat) (body:ACode):ACode :=
 .seq (.reg [.seq ⟨some c, .bin .lss 0 (.t i) (.t n),none⟩]) (.seq (.cond (.t c) .nop (.exit id)) (.seq body (.reg [.seq ⟨some j, .bin .add 0 (.t i) (.c (.int .i64 1)),none⟩, .seq ⟨some i, .mv false (.t j),none⟩])))
theorem Run_range {c i j n id:Nat} {body:ACode} (N:Nat) (ts us:List Nat) (P:Nat→List V→St→Prop) (hN:N≤9223372036854775807) (hi:F i=.int .i64 0) (hn:F n=.int .i64 (N:Int))
  (hw:((n::ts).all fun t=>!(wrC (rangeC c i j n id body)).contains t)=true) (hw2:((i::us).all fun t=>t != c&&t != j)=true) (hw3:(us.all fun t=>t != i)=true) (hw4:(wrC body).contains i=false)
  (htm:Tame ts F=true) (h0:P 0 (us.map F) S)
  (step:∀ k F1 S1,k < N→P k (us.map F1) S1→F1 i=.int .i64 (k:Int)→Kept ts F F1→Run E [.c body] F1 S1 fun e F2 S2=>match e with | .nrm=>P (k+1) (us.map F2) S2 | e=>Kept ts F F2→RunE E (.b id::ks) e F2 S2 Q)
  (fin:∀ F1 S1,P N (us.map F1) S1→Kept ts F F1→Run E ks F1 S1 Q):Run E (.c (.loop (rangeC c i j n id body))::.b id::ks) F S Q:=by
 have hic:i≠c∧i≠j:=by simp only [List.all_cons,Bool.and_eq_true,bne_iff_ne,ne_eq] at hw2; exact hw2.1
 have husc:∀ t∈us,t≠c∧t≠j∧t≠i:=fun t ht=>by
  simp only [List.all_cons,Bool.and_eq_true,bne_iff_ne,ne_eq,List.all_eq_true] at hw2 hw3
  exact ⟨(hw2.2 t ht).1,(hw2.2 t ht).2,hw3 t ht⟩
 have hnw:∀ t∈n::ts,t≠c∧t≠j∧t≠i∧t ∉ wrC body:=by
  intro t ht
  have:=List.all_eq_true.1 hw t ht
  simp only [rangeC,wrC,wrB,wrO,List.flatMap_cons,List.flatMap_nil,List.append_nil,List.nil_append,List.contains_eq_mem,List.mem_append,List.mem_singleton,List.mem_cons,List.not_mem_nil,or_false,false_or,Bool.not_eq_true',decide_eq_false_iff_not,not_or] at this
  exact ⟨this.1,this.2.2.1,this.2.2.2,this.2.1⟩
 have hiw:i ∉ wrC body:=by simpa using hw4
 have hmap:∀ {G G':Fr},(∀ t,t≠c→t≠j→t≠i→G' t=G t)→us.map G'=us.map G:=by
  intro G G' h
  exact List.map_congr_left fun t ht=>h t (husc t ht).1 (husc t ht).2.1 (husc t ht).2.2
 have htm':∀ t∈n::ts,tame (F t)=true:=by
  intro t ht
  rcases List.mem_cons.1 ht with rfl | ht
  ·rw [hn]; rfl
  ·exact Tame.get htm t ht
 refine Run_of_EvQ (EvQ.loop (fun m F1 S1=>∃ k,m+k=N∧P k (us.map F1) S1∧F1 i=.int .i64 (k:Int)∧∀ t∈n::ts,F1 t=F t) ?_ N F S ⟨0,by omega,h0,by simpa using hi,fun _ _=>rfl⟩)
 rintro m F1 S1 ⟨k,hm,hP,hk,hkept⟩
 have hn1:F1 n=.int .i64 (N:Int):=by rw [hkept n List.mem_cons_self,hn]
 have hg:∀ t∈n::ts,(put F1 c (.bool (decide ((k:Int) < (N:Int))))) t=F t:=fun t ht=>by rw [put_miss (hnw t ht).1]; exact hkept t ht
 unfold rangeC
 refine EvQ.seq (EvQ.mono (EvQ_run (Q:=fun e F2 S2=>e=.nrm∧F2=put F1 c (.bool (decide ((k:Int) < (N:Int))))∧S2=S1) (by simp only [go_sem,simprocAttr,hk,hn1])) ?_)
 rintro e F2 S2 ⟨rfl,rfl,rfl⟩
 simp only
 by_cases hlt:k < N
 ·have hct:decide ((k:Int) < (N:Int))=true:=by simp; exact hlt
  rw [hct] at hg ⊢
  refine EvQ.seq (EvQ.cond true sx (EvQ.nop ?_))
  simp only
  have hst:=step k (put F1 c (.bool true)) S2 hlt (by rw [hmap (G:=F1) fun t h1 _ _=>put_miss h1]; exact hP) (by rw [put_miss hic.1]; exact hk) (Kept.of fun t ht=>hg t (List.mem_cons_of_mem _ ht))
  refine EvQ.seq (EvQ.mono (EvQ_keeps (EvQ_run hst)) ?_)
  rintro e F3 S3 ⟨h3,hk3⟩
  have hg3:∀ t∈n::ts,F3 t=F t:=fun t ht=>by
   rw [hk3 t (hnw t ht).2.2.2 (by rw [hg t ht]; exact htm' t ht)]
   exact hg t ht
  have hi3:F3 i=.int .i64 (k:Int):=by rw [hk3 i hiw (by rw [put_miss hic.1,hk]; rfl),put_miss hic.1,hk]
  cases e with
  | nrm =>
   simp only at h3 ⊢
   refine EvQ.mono (EvQ_run (Q:=fun e F2 S2=>e=.nrm∧F2=put (put F3 j (.int .i64 ((k+1:Nat):Int))) i (.int .i64 ((k+1:Nat):Int))∧S2=S3) (by simp only [go_sem,simprocAttr,hi3,wrap_succ (show k < 9223372036854775807 by omega)])) ?_
   rintro e F4 S4 ⟨rfl,rfl,rfl⟩
   refine ⟨m - 1,by omega,k+1,by omega,?_,put_hit,fun t ht=>?_⟩
   ·rw [hmap (G:=F3) fun t h1 h2 h3=>by rw [put_miss h3,put_miss h2]]; exact h3
   ·rw [put_miss (hnw t ht).2.2.1,put_miss (hnw t ht).2.1]; exact hg3 t ht
  | _=>exact h3 (Kept.of fun t ht=>hg3 t (List.mem_cons_of_mem _ ht))
 ·have hct:decide ((k:Int) < (N:Int))=false:=by simp; omega
  rw [hct] at hg ⊢
  refine EvQ.seq (EvQ.cond false sx (EvQ.exit ?_))
  simp only [go_sem,simprocAttr]
  obtain rfl:k=N:=by omega
  exact fin _ _ (by rw [hmap (G:=F1) fun t h1 _ _=>put_miss h1]; exact hP) (Kept.of fun t ht=>hg t (List.mem_cons_of_mem _ ht))
theorem Run_all {c i j n id:Nat} {body:ACode} {α:Type} (l:List α) (f:α→Bool) (J:St→Prop) (ts:List Nat) (hN:l.length≤9223372036854775807) (hi:F i=.int .i64 0) (hn:F n=.int .i64 (l.length:Int))
  (hw:((n::ts).all fun t=>!(wrC (rangeC c i j n id body)).contains t)=true) (hw2:(i != c&&i != j)=true) (hw4:(wrC body).contains i=false)
  (htm:Tame ts F=true) (h0:J S)
  (step:∀ (k:Nat) F1 S1 x,l[k]?=some x→x∈l→J S1→F1 i=.int .i64 (k:Int)→Kept ts F F1→(f x=false→l.all f=false)→Run E [.c body] F1 S1 fun e F2 S2=>match e with | .nrm=>f x=true∧J S2 | e=>Kept ts F F2→RunE E (.b id::ks) e F2 S2 Q)
  (fin:∀ F1 S1,l.all f=true→J S1→Kept ts F F1→Run E ks F1 S1 Q):Run E (.c (.loop (rangeC c i j n id body))::.b id::ks) F S Q:=by
 refine Run_range l.length ts [] (fun k _ S'=>J S'∧∀ m x,m < k→l[m]?=some x→f x=true) hN hi hn hw (by simpa using hw2) rfl hw4 htm ⟨h0,by simp⟩ ?_ ?_
 ·rintro k F1 S1 hk ⟨hJ,hall⟩ hi1 hkept
  obtain ⟨x,hx⟩:∃ x,l[k]?=some x:=⟨l[k],List.getElem?_eq_getElem hk⟩
  have hm:=List.mem_of_getElem? hx
  have h:=step k F1 S1 x hx hm hJ hi1 hkept fun hf=>List.all_eq_false.2 ⟨x,hm,by simp [hf]⟩
  refine Run_mono h fun e F2 S2 h=>?_
  cases e with
  | nrm =>
   refine ⟨h.2,fun m y hm' hy=>?_⟩
   rcases Nat.lt_succ_iff_lt_or_eq.1 hm' with h1 | h1
   ·exact hall m y h1 hy
   ·subst h1; rw [hx] at hy; cases hy; exact h.1
  | _=>exact h
 ·rintro F1 S1 ⟨hJ,hall⟩ hkept
  refine fin F1 S1 (List.all_eq_true.2 fun x hx=>?_) hJ hkept
  obtain ⟨m,hm⟩:=List.mem_iff_getElem?.1 hx
  exact hall m x (List.getElem?_eq_some_iff.1 hm).1 hm
end
end Wp
end AM
end Go.Proofs.Ytimfbnojmdnlnaa
