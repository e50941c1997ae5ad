/- An operation among others in a row: what the evaluator says, the machine does; Operations among others in whatever order: one of them; two of them; what settles behind them; Operations among others in whatever order: two of them may change places; what settles behind them; What settles behind a block of operations in whatever order; Regions: those in one order, and those that draw their order; Regions that draw their order; Code: what is asked behind it; loops; A loop over a function; Code: what the evaluator says, the machine does; Entering a function and leaving it; Functions, whole: what the evaluator says, the machine does; The evaluator is sound: what it says of a call, the machine does; A function with one deferred closure that takes a panic back and writes the result. -/
import Derived.Test.YtimfbnojmdnlnaaKM9
import Derived.RecoverIn
set_option linter.all false
section
namespace Go.Proofs.Ytimfbnojmdnlnaa
namespace AM
section
variable {P:Program} {T:St} {g:Gh} {w:World} {nt:Nat} {F:Fr} {a:Act} {tk:Option Nat→Bool} {o:Oper} {cE:CE} {K:Act→World→Prop} {Q:Exit→Act→World→Prop} {ro:Option Nat} {r:OR}
theorem mv_inv {k:Bool} {X:Opd} (h:CompOf P tk o (.mv k X)):∃ x,(o.op=.move x∨o.op=.assign x)∧opd x=some X:=by
 generalize hop:AOp.mv k X=op at h
 cases h with
 | move x X' he hX=>simp only [AOp.mv.injEq] at hop; obtain ⟨_,rfl⟩:=hop; exact ⟨x, .inl he,hX⟩
 | assign x X' he hX=>simp only [AOp.mv.injEq] at hop; obtain ⟨_,rfl⟩:=hop; exact ⟨x, .inr he,hX⟩
 | val op h=>subst hop; cases h
 | _=>simp at hop
theorem ld_inv {k:Bool} {n:Nat} {gg:Bool} {X:Opd} (h:CompOf P tk o (.ld k n gg X)):∃ t x,o.op=.load t x∧szOf P t=some n∧aggOf P t=some gg∧opd x=some X:=by
 generalize hop:AOp.ld k n gg X=op at h
 cases h with
 | load t n' gg' x X' he hn hg hX=>simp only [AOp.ld.injEq] at hop; obtain ⟨_,rfl,rfl,rfl⟩:=hop; exact ⟨t,x,he,hn,hg,hX⟩
 | val op h=>subst hop; cases h
 | _=>simp at hop
theorem opd_tmp {x:Operand} {s:Nat} (h:opd x=some (.t s)):x=.tmp s:=by
 unfold opd at h
 split at h
 ·simp at h; subst h; rfl
 ·simp at h
 ·simp at h
 ·cases h
theorem opd_const {x:Operand} {v:V} (h:opd x=some (.c v)):isCalm v=true:=by
 unfold opd at h
 split at h
 ·simp at h
 ·obtain ⟨u,hu,h⟩:=Option.map_eq_some_iff.1 h
  simp at h; subst h
  exact (rel_ofValue (g:=⟨fun _ _=>none,fun _ _=>0,fun _=>0,fun _=>.free,fun _ _=>none⟩) (d:=0) hu).2
 ·simp at h; subst h; rfl
 ·cases h
theorem go_value {x:Value} {w':World} (hnd:∀ c,o.op≠.defer c) (hrun:(execOp a.eval o).run P w=.ok (.value x) w') (h:K (a.put o.dst x) w'):o.wpIn (fen ro) 0 P a w K Q:=wpIn_of_run hnd hrun h
theorem go_yields (I:Inv P T g w) (hF:FrRel P T g w nt F a.tmps) (ht:∀ t,tame (F t)=true) (hfl:Flat T) (hd:inNt nt o.dst=true) (hnd:∀ c,o.op≠.defer c) {v:V} (hy:Yields P T g w a o v) (hG:Goes P T g w nt F a K Q (.ok (putO F o.dst v) T)):o.wpIn (fen ro) 0 P a w K Q:=by
 obtain ⟨x,h1,h2,h3⟩:=hy
 exact go_value hnd h1 (hG.ok _ _ rfl _ _ _ (step_quiet I hF hfl hd fun t _=>TmpAt.calm h3 h2) (tame_putO ht (tame_of_calm h3)))
mutual
theorem tame_low {n:Nat}:∀ {v:V},low n v=true→tame v=true
 | .undef,h=>by simp [low] at h
 | .bool _,_=>rfl
 | .int _ _,_=>rfl
 | .str _,_=>rfl
 | .ptr _ _ _,_=>rfl
 | .nilp,_=>rfl
 | .look _,_=>rfl
 | .slice _ _,_=>rfl
 | .func _ _,_=>rfl
 | .nilf,_=>rfl
 | .ifc _ _,_=>rfl
 | .nili,_=>rfl
 | .agg _,_=>rfl
 | .tup _,_=>rfl
 | .fresh _,h=>by simp [low] at h
 | .mir _ _ _ _ _,h=>by simp [low] at h
 | .bsl _ _ _ _ _ _,_=>rfl
end
theorem tames_low {n:Nat}:∀ {vs:List V},lowL n vs=true→tames vs=true
 | [],_=>rfl
 | v::vs,h=>by
  simp only [lowL,Bool.and_eq_true] at h
  simp [tames,tame_low h.1,tames_low h.2]
theorem rel_args (hF:FrRel P T g w nt F a.tmps) {args:Array Operand} {Xs:List Opd} (h:opds args=some Xs):RelL g T.length (Xs.map fun x=>strip (evO F x)) (args.toList.map a.eval):=by
 have:=relL_strip (rel_opds hF h)
 rwa [List.map_map] at this
theorem pure_call (hE:CallOk P cE) (I:Inv P T g w) {f:Nat} {args:List V} {vals:List Value} (hargs:RelL g T.length (args.map strip) vals) (hlow:lowL 0 (args.map strip)=true) {out:Out} {T1:St} (hc:cE (.fn f) (args.map strip) []=some (out,T1)) :
  Enters P f∧CallsIn Fence.wide 0 P f ⟨vals⟩ w (OutPost P [] g.clear w T1 out) :=
 hE (.fn f) (args.map strip) [] out T1 hc g.clear w vals (inv_clear I) (clean_clear _) (relL_mono le0_clear (Nat.zero_le _) _ _ (relL_low _ _ hlow hargs)) (calm_args' (tames_low hlow))
theorem tame_app {e n b:Nat} {X Y:Opd} {v:V} (h:appOf F e n b X Y=some v):tame v=true:=by
 have hV:∀ k e xs ys,tame (appV k e xs ys)=true:=fun k e xs ys=>by unfold appV; split<;>rfl
 unfold appOf at h
 split at h
 ·split at h
  ·injection h with h; subst h; exact hV _ _ _ _
  ·cases h
 ·cases h
theorem tame_appA {e n b:Nat} {X Y:Opd} {v:V} (h:appA F T e n b X Y=some v):tame v=true:=by
 have hV:∀ k e xs ys,tame (appV k e xs ys)=true:=fun k e xs ys=>by unfold appV; split<;>rfl
 unfold appA at h
 split at h
 ·unfold appB at h
  split at h
  ·simp only [Option.bind_eq_some_iff] at h
   obtain ⟨_,_,h⟩:=h
   split at h
   ·injection h with h; subst h; exact hV _ _ _ _
   ·cases h
  ·cases h
 ·exact tame_app h
theorem isCalm_flat {v:V} (h:flatV v=true):isCalm v=true:=by
 cases v with
 | slice k xs=>cases k<;>first | rfl | (cases xs<;>simp [flatV,flat] at h; done)
 | _=>first | rfl | (simp [flatV,flat] at h; done)
theorem relFlat {g1 g2:Gh} {d1 d2:Nat} {v:V} {x:Value} (h:flat v=true) (r:Rel g1 d1 v x):Rel g2 d2 v x:=by
 cases v with
 | slice k xs =>
  cases k<;>cases xs<;>first | (simp [flat] at h; done) | skip
  simp only [Rel,RowsG] at r ⊢
  exact r
 | _=>simp only [flat,Bool.false_eq_true] at h<;>simpa only [Rel] using r
theorem relF {g1 g2:Gh} {d1 d2:Nat}:∀ {cs:List V} {xs:List Value},flats cs=true→RelL g1 d1 cs xs→RelL g2 d2 cs xs
 | [],_,_,r=>by simpa only [RelL] using r
 | c::cs,xs,h,r=>by
  simp only [flats,List.all_cons,Bool.and_eq_true] at h
  simp only [RelL] at r ⊢
  obtain ⟨u,us,hx,hc,hs⟩:=r
  exact ⟨u,us,hx,relFlat h.1 hc,relF h.2 hs⟩
theorem relFV {g1 g2:Gh} {d1 d2:Nat} {v:V} {x:Value} (h:flatV v=true) (r:Rel g1 d1 v x):Rel g2 d2 v x:=by
 cases v with
 | agg cs=>simp only [Rel] at r ⊢; obtain ⟨vs,h1,h2,h3⟩:=r; exact ⟨vs,h1,h2,relF h h3⟩
 | tup cs=>simp only [Rel] at r ⊢; obtain ⟨vs,h1,h3⟩:=r; exact ⟨vs,h1,relF h h3⟩
 | _=>exact relFlat h r
theorem flats_own {cs:List V} (h:flats cs=true):noOwn cs=true:=List.all_eq_true.2 fun c hc=>by
 have:=List.all_eq_true.1 h c hc
 cases c with
 | slice k xs=>cases k<;>first | rfl | (cases xs<;>simp [flat] at this; done)
 | _=>first | rfl | (simp [flat] at this; done)
theorem tame_flatW {v:V} (h:flatW v=true):tame v=true:=by
 cases v with
 | slice k xs=>cases k<;>rfl
 | _=>exact tame_of_calm (isCalm_flat h)
theorem step_flat (I:Inv P T g w) (hF:FrRel P T g w nt F a.tmps) (hfl:Flat T) {d:Option Nat} (hd:inNt nt d=true) {g0 g1:Gh} {w1:World} (h0:∀ b,g0.use b=.free) (hfrm:Frm g0 w g1 w1) {v:V} {x:Value} (hr:Rel g T.length v x) (hc:isCalm v=true):StepTo P T g w a nt T (putO F d v) g w1 (a.put d x):=by
 have hsame:Same (fun _=>False) g w g w1:=⟨hfrm.os,hfrm.tape,hfrm.output,hfrm.size,fun b hb _=>⟨(hfrm.old b hb (h0 b)).1,rfl,fun _=>rfl⟩⟩
 have hinv:Inv P T g w1:=by
  refine I.step hsame (Le.refl _ _) (fun b o v hv hc=>?_) (fun b hb=>?_) (fun l i cs hc=>.inl ⟨hc,fun h=>h,fun _ h=>h⟩) (fun l p hp=>.inl ⟨hp,fun h=>h,hfl.lp hp⟩) (fun l i hl hn=>I.N l i hl hn)
  ·have:=G_lt I hv
   rcases hc with hc | hc
   ·exact hc.1.elim
   ·omega
  ·exact I.U b (Nat.le_trans hfrm.size hb)
 exact ⟨Le.refl _ _,hsame.frm (fun h=>h),hinv,FrRel.put hF.size hF.past hd (fun t y _ hy=>(hF.tmp t y hy).same I hsame (Le.refl _ _) rfl (fun h=>h) (.inr ⟨rfl,fun _ _ h=>h⟩)) (fun t _=>TmpAt.calm hc hr),rfl,hfl,put_defs _ _ _,fun b hb hu=>by
  obtain ⟨h1,h2,_⟩:=hsame.old b hb (fun h=>h)
  exact ⟨h2.trans hu,h1⟩⟩
theorem seqOp_ok (hE:CallOk P cE) (I:Inv P T g w) (hF:FrRel P T g w nt F a.tmps) (ht:∀ t,tame (F t)=true) (hfl:Flat T) (hd:inNt nt o.dst=true) {op:AOp} (hc:compOp P tk o=some op) (hv:seqOp cE o.dst op F T=some r) (hG:Goes P T g w nt F a K Q r) :
  o.wpIn (fen ro) 0 P a w K Q:=by
 have hnd:=compOp_defer hc
 have hi:=compOp_inv hc
 unfold seqOp at hv
 split at hv
 ·-- mv true (.t s)
  rename_i s
  split at hv<;>try (cases hv; done)
  rename_i hts
  injection hv with hv; subst hv
  obtain ⟨x,he,hX⟩:=mv_inv hi
  have:=opd_tmp hX; subst this
  obtain ⟨g',hg'⟩:=step_mv I hF hfl hd hts
  refine go_value hnd (x:=a.eval (.tmp s)) (by rcases he with he | he<;>simp [execOp,he]) (hG.ok _ _ rfl _ _ _ hg' (tame_putO (fun t=>?_) hts))
  simp only [put]
  split
  ·exact tame_strip hts
  ·exact ht t
 ·rename_i v
  injection hv with hv; subst hv
  obtain ⟨x,he,hX⟩:=mv_inv hi
  have hcalm:=opd_const hX
  exact go_value hnd (x:=a.eval x) (by rcases he with he | he<;>simp [execOp,he]) (hG.ok _ _ rfl _ _ _ (step_quiet I hF hfl hd fun t _=>TmpAt.calm hcalm (rel_opd hF hX)) (tame_putO ht (tame_of_calm hcalm)))
 ·obtain ⟨bs,R,rfl⟩:=hfl.pos
  simp only [Option.some.injEq] at hv
  subst hv
  obtain ⟨x,w',g',h1,h2⟩:=step_al I hF ht hd rfl hi
  exact go_value hnd h1 (hG.ok _ _ rfl _ _ _ h2 (tame_putO ht rfl))
 ·obtain ⟨bs,R,rfl⟩:=hfl.pos
  rename_i n X
  split at hv
  ·rename_i T0 R0 cs hT hcs
   simp only [List.cons.injEq] at hT
   obtain ⟨rfl,rfl⟩:=hT
   split at hv<;>try (cases hv; done)
   simp only [Option.some.injEq] at hv
   subst hv
   obtain ⟨x,w',g',h1,h2⟩:=step_bx I hF ht hd rfl hi hcs
   exact go_value hnd h1 (hG.ok _ _ rfl _ _ _ h2 (tame_putO ht rfl))
  ·cases hv
 ·-- ld true
  rename_i n gg X
  obtain ⟨t,x,he,hn,hg,hX⟩:=ld_inv hi
  have fall:∀ (hv:(match valOp cE F T (.ld false n gg X) with | some (.ret v)=>some (OR.ok (putO F o.dst v) T) | _=>none)=some r),o.wpIn (fen ro) 0 P a w K Q:=by
   intro hv
   split at hv<;>try (cases hv; done)
   rename_i v hvv
   injection hv with hv; subst hv
   exact go_yields I hF ht hfl hd hnd (y_load I hF he hn hg hX hvv) hG
  split at hv
  ·rename_i l i p hXe
   split at hv
   ·rename_i e xs hown
    simp only [Option.bind_eq_some_iff] at hv hown
    obtain ⟨cs,hcs,hv⟩:=hv
    obtain ⟨cs',hcs',hown⟩:=hown
    rw [hcs] at hcs'; injection hcs' with hcs'; subst hcs'
    split at hv<;>try (cases hv; done)
    rename_i h1
    obtain ⟨rfl,rfl⟩:=h1
    injection hv with hv; subst hv
    obtain ⟨y,g',h2,h3⟩:=step_ld I hF ht hfl hd hi hXe hcs hown
    exact go_value hnd h2 (hG.ok _ _ rfl _ _ _ h3 (tame_putO ht rfl))
   ·exact fall hv
  ·exact fall hv
 ·rename_i n X Y
  split at hv<;>try (cases hv; done)
  rename_i l i p hXe
  simp only [Option.bind_eq_some_iff] at hv
  obtain ⟨cs,hcs,vs,hvs,hv⟩:=hv
  split at hv<;>try (cases hv; done)
  rename_i h1
  obtain ⟨h2,h3,h4⟩:=h1
  injection hv with hv; subst hv
  obtain ⟨w',g',h5,h6⟩:=step_st I hF ht hfl hd hi hXe hcs hvs h2 h3 h4
  exact wpIn_of_run hnd h5 (hG.ok _ _ rfl _ _ _ h6 (tame_putO (tame_unown ht) rfl))
 ·rename_i e n b X Y
  simp only [Option.map_eq_some_iff] at hv
  obtain ⟨v,hv,rfl⟩:=hv
  obtain ⟨x,w',g',h1,h2⟩:=step_app I hF hfl hd hi hv
  exact go_value hnd h1 (hG.ok _ _ rfl _ _ _ h2 (tame_putO (tame_unown ht) (tame_app hv)))
 ·cases hi with
  | val _ h=>cases h
 ·cases hi with
  | val _ h=>cases h
 ·-- make
  rename_i e n b z X Y
  obtain ⟨bs,R,hT⟩:=hfl.pos
  split at hv<;>try (cases hv; done)
  rename_i T0 R0 kx k ky k' hXe hYe
  split at hv<;>try (cases hv; done)
  rename_i hcond
  obtain ⟨c1,rfl,c3,c4,c5⟩:=hcond
  simp only [List.cons.injEq] at hT
  obtain ⟨rfl,rfl⟩:=hT
  have hT:(⟨bs,none⟩::R0:St)=⟨bs,none⟩::R0:=rfl
  injection hv with hv; subst hv
  obtain ⟨x,w',g',k1,k2⟩:=step_mk I hF ht hfl hd hT hi hXe hYe c1 c4 c5
  exact go_value hnd k1 (hG.ok _ _ rfl _ _ _ k2 (tame_putO ht rfl))
 ·cases hi with
  | val _ h=>cases h
 ·cases hi with
  | val _ h=>cases h
 ·cases hi with
  | val _ h=>cases h
 ·-- call
  rename_i f Xs
  cases hi with
  | val _ h=>cases h
  | call _ args ts _ he hXs =>
   have hargs:=rel_args hF hXs
   have hmm:(Xs.map fun x=>strip (evO F x))=(Xs.map (evO F)).map strip:=by simp
   simp only at hv
   rw [hmm] at hv hargs
   split at hv
   ·rename_i hlow
    split at hv
    ·rename_i v T1 hcc
     split at hv<;>try (cases hv; done)
     rename_i hlv
     injection hv with hv; subst hv
     obtain ⟨h1,h2⟩:=pure_call hE I hargs hlow hcc
     have hrun:=run_call_func (a:=a) (cs:=[]) (w:=w) he rfl h1
     rw [List.append_nil] at hrun
     refine wpIn_of_run hnd hrun (upon_enter h2 (fun x w' h=>?_) (fun ch w' h=>?_) (fun w'=>outPost_out))
     ·obtain ⟨g1,y,hy,hdn,I1,hlen,hr,htv,ho⟩:=h
      injection hy with hy; subst hy
      obtain ⟨g',hg'⟩:=step_call0 I hF hfl hd hdn.frm I1 hr htv ho
      exact hG.ok _ _ rfl _ _ _ hg' (tame_putO ht htv)
     ·obtain ⟨g1,y,hy,_⟩:=h; cases hy
    ·rename_i v T1 hcc
     split at hv<;>try (cases hv; done)
     rename_i hlv
     injection hv with hv; subst hv
     obtain ⟨h1,h2⟩:=pure_call hE I hargs hlow hcc
     have hrun:=run_call_func (a:=a) (cs:=[]) (w:=w) he rfl h1
     rw [List.append_nil] at hrun
     refine wpIn_of_run hnd hrun (upon_enter h2 (fun x w' h=>?_) (fun ch w' h=>?_) (fun w'=>outPost_out))
     ·obtain ⟨g1,y,hy,_⟩:=h; cases hy
     ·obtain ⟨g1,y,hy,hdn,I1,hlen,hr⟩:=h
      injection hy with hy; subst hy
      obtain ⟨hle,hle1,hsame,hinv⟩:=inv_merge I hfl hdn.frm I1 none
      refine hG.pan _ _ rfl _ _ _ ⟨⟨hF.size,hF.past,fun t y hy=>(hF.tmp t y hy).same I hsame (hle _) rfl (fun h=>h) (.inr ⟨rfl,fun _ _ h=>h⟩)⟩,hle _,hsame.frm (fun h=>h),hinv,rfl,fun b hb hu=>?_,rel_mono hle1 (Nat.le_refl _) _ _ hr⟩
      obtain ⟨k1,k2,_⟩:=hsame.old b hb (fun h=>h)
      exact ⟨k2.trans hu,k1⟩
    ·rename_i v L T1 hcc
     obtain ⟨bs,R,hT⟩:=hfl.pos
     rw [hT] at hv
     simp only at hv
     split at hv<;>try (cases hv; done)
     rename_i hbare
     simp only [Option.some.injEq] at hv
     subst hv
     obtain ⟨h1,h2⟩:=pure_call hE I hargs hlow hcc
     have hrun:=run_call_func (a:=a) (cs:=[]) (w:=w) he rfl h1
     rw [List.append_nil] at hrun
     refine wpIn_of_run hnd hrun (upon_enter h2 (fun x w' h=>?_) (fun ch w' h=>?_) (fun w'=>outPost_out))
     ·obtain ⟨g1,y,hy,hdn,I1,hlen,hr,hcv⟩:=h
      injection hy with hy; subst hy
      have hT1:T1=[]:=List.eq_nil_of_length_eq_zero hlen
      subst hT1
      obtain ⟨g',hg'⟩:=step_esc I hF ht hT hd hdn.frm I1 hr hcv hbare.1 hbare.2
      exact hG.ok _ _ rfl _ _ _ hg' (tame_putO ht (tame_of_calm (by rw [isCalm_reloc]; exact hcv)))
     ·obtain ⟨g1,y,hy,_⟩:=h; cases hy
    ·cases hv
   ·split at hv<;>try (cases hv; done)
    rename_i htm
    obtain ⟨h1,h2⟩:=full_call (ro:=ro) hE I hF ht hd rfl hargs (calm_args' htm) hv hG
    have hrun:=run_call_func (a:=a) (cs:=[]) (w:=w) he rfl h1
    rw [List.append_nil] at hrun
    exact wpIn_of_run hnd hrun h2
 ·-- callv
  rename_i X Xs
  cases hi with
  | val _ h=>cases h
  | callv x _ args ts _ he hX hXs =>
   have hrx:=rel_opd hF hX
   split at hv
   ·rename_i f cs hXe
    simp only at hv
    split at hv<;>try (cases hv; done)
    rename_i htm
    rw [hXe] at hrx
    simp only [Rel] at hrx
    obtain ⟨f',cs',hxe,hcs,rfl⟩:=hrx
    have hargs:=relL_strip (relL_append (rel_opds hF hXs) hcs)
    obtain ⟨h1,h2⟩:=full_call (ro:=ro) hE I hF ht hd rfl hargs (calm_args' htm) hv hG
    exact wpIn_of_run hnd (run_call_func he hxe h1) h2
   ·rename_i l cs hXe
    simp only at hv
    split at hv<;>try (cases hv; done)
    rename_i htm
    rw [hXe] at hrx
    simp only [Rel] at hrx
    obtain ⟨f',cs',hxe,hcs,hcs0,hl,hu,rfl⟩:=hrx
    have hargs:=relL_strip (rel_opds hF hXs)
    obtain ⟨rc,h1,h2,h3⟩:=yield_call (ro:=ro) hE I hF ht hd rfl hl hu hargs (calm_args' htm) hv hG
    exact wpIn_of_run hnd (run_call_yield he hxe h1 (by simpa using h2)) h3
   ·cases hv
 ·rename_i X
  split at hv<;>try (cases hv; done)
  rename_i t v hXe
  split at hv<;>try (cases hv; done)
  rename_i hlow
  injection hv with hv; subst hv
  cases hi with
  | val _ h=>cases h
  | pan x _ he hX =>
   have hrx:=rel_opd hF hX
   rw [hXe] at hrx
   have hr0:=rel_low _ _ hlow hrx
   simp only [Rel] at hrx
   obtain ⟨y,hxe,_⟩:=hrx
   have hrun:(execOp a.eval o).run P w=.halt (.panic (.iface t y)) w:=by
    simp [execOp,he,hxe,Instr.panic,goPanic]
   refine wpIn_of_run hnd hrun ?_
   rw [hxe] at hr0
   exact hG.pan _ _ rfl g w _ ⟨hF,Le.refl _ _,Frm.refl _ _,I,rfl,fun _ _ h=>⟨h,rfl⟩,hr0⟩
 ·rename_i h1 h2 h3 h4 h5 h6 h7 h8 h9 h10 h11 h12 h13 h14 h15 h16
  split at hv<;>try (cases hv; done)
  rename_i v hvv
  injection hv with hv; subst hv
  by_cases hrow:∃ e n ps,op=.row e n ps
  ·obtain ⟨e,n,ps,rfl⟩:=hrow
   obtain ⟨x,w',g',k1,k2⟩:=step_row I hF hfl hd hi hvv
   refine go_value hnd k1 (hG.ok _ _ rfl _ _ _ k2 (tame_putO ht ?_))
   simp only [valOp] at hvv
   split at hvv
   ·simp only [Option.map_eq_some_iff] at hvv
    obtain ⟨xs,_,hvv⟩:=hvv
    simp at hvv; subst hvv; rfl
   ·cases hvv
  ·exact go_yields I hF ht hfl hd hnd (valOp_ok I hF hc hvv (fun e n ps h=>hrow ⟨e,n,ps,h⟩) (fun f xs h=>by subst h; simp_all)) hG
theorem retag_inv {op0 op:AOp} (h:retag P tk o op0=op):op=op0∨(∃ f xs,op0=.call f xs∧(op=.callw f xs∨∃ e m,(m=0∨szOf P e=some m)∧op=.callr f e m xs))∨(∃ e n b x y,op0=.app e n b x y∧(op=.appb e n b x y∨∃ lv,op=.appr e n b x y lv))∨∃ e n ps,op0=.row e n ps∧op=.rowr e n ps:=by
 unfold retag at h
 split at h
 ·exact .inl h.symm
 ·split at h
  ·exact .inl h.symm
  ·split at h
   ·split at h
    ·exact .inr (.inl ⟨_,_,rfl, .inl h.symm⟩)
    ·split at h
     ·exact .inr (.inl ⟨_,_,rfl, .inr ⟨_,_, .inl rfl,h.symm⟩⟩)
     ·split at h
      ·split at h
       ·split at h
        ·exact .inr (.inl ⟨_,_,rfl, .inr ⟨_,_, .inr ‹_›,h.symm⟩⟩)
        ·exact .inl h.symm
       ·exact .inl h.symm
      ·exact .inl h.symm
   ·split at h
    ·exact .inr (.inr (.inr ⟨_,_,_,rfl,h.symm⟩))
    ·exact .inl h.symm
   ·split at h
    ·exact .inr (.inr (.inl ⟨_,_,_,_,_,rfl, .inl h.symm⟩))
    ·split at h
     ·exact .inr (.inr (.inl ⟨_,_,_,_,_,rfl, .inr ⟨_,h.symm⟩⟩))
     ·split at h
      ·exact .inr (.inr (.inl ⟨_,_,_,_,_,rfl, .inr ⟨_,h.symm⟩⟩))
      ·exact .inl h.symm
   ·exact .inl h.symm
theorem view_on (hE:CallOk P cE) (I:Inv P T g w) (hF:FrRel P T g w nt F a.tmps) (hfl:Flat T) (hd:inNt nt o.dst=true) (hnd:∀ c,o.op≠.defer c) {f:Nat} {Xs:List Opd} (hi:CompOf P tk o (.call f Xs)) {vs:List V} {v:V} {T1:St} (hvs:(Xs.map fun x=>evO F x).mapM (frz T 0 4)=some vs) (hlow:lowL 0 vs=true) (hcc:cE (.fn f) vs []=some (.ret v,T1)) (hfv:flatW v=true)
  (hK:∀ g' w' a',StepTo P T g w a nt T (putO F o.dst v) g' w' a'→K a' w') :
  o.wpIn (fen ro) 0 P a w K Q:=by
 cases hi with
 | val _ h=>cases h
 | call _ args ts _ he hXs =>
  have hargs:RelL g T.length (Xs.map (evO F)) (args.toList.map a.eval):=rel_opds hF hXs
  obtain ⟨m1,m2⟩:=mapM_some hvs
  have hview:RelL (g.melt w 0) 0 vs (args.toList.map a.eval):=relL_iff.2 ⟨by rw [m1]; exact relL_length hargs,fun j u y hu hy=>by
   obtain ⟨c,hc,hcu⟩:=m2 j u hu
   exact frz_ok I 0 hcu (lowL_iff.1 hlow u (List.mem_of_getElem? hu)) ((relL_iff.1 hargs).2 j c y hc hy)⟩
  have hcalm:∀ v∈vs,isCalm v=true:=fun u hu=>by
   obtain ⟨j,hj,rfl⟩:=List.getElem_of_mem hu
   obtain ⟨c,hc,hcu⟩:=m2 j _ (List.getElem?_eq_getElem hj)
   exact calm_frz hcu (lowL_iff.1 hlow _ (List.getElem_mem hj))
  have Iv:Inv P [] (g.melt w 0).clear w:=by
   have hle:=le_melt I 0
   refine ⟨(I.K.mono hle:Base P (g.melt w 0)),fun b oo u h=>⟨?_, .inl rfl⟩,fun _ _=>rfl,fun l i cs h=>by simp [getBox] at h,fun l p h=>by simp [getLp] at h,fun l i h=>by simp at h⟩
   have h':(g.melt w 0).G b oo=some u:=h
   simp only [Gh.melt] at h'
   split at h'
   ·simp only [Nat.zero_le,if_true] at h'
    exact h'
   ·exact (I.G b oo u h').1
  obtain ⟨h1,h2⟩:=hE (.fn f) vs [] (.ret v) T1 hcc (g.melt w 0).clear w _ Iv (clean_clear _) (relL_mono le0_clear (Nat.zero_le _) _ _ hview) hcalm
  have hrun:=run_call_func (a:=a) (cs:=[]) (w:=w) he rfl h1
  rw [List.append_nil] at hrun
  refine wpIn_of_run hnd hrun (upon_enter h2 (fun x w' h=>?_) (fun ch w' h=>?_) (fun w'=>outPost_out))
  ·obtain ⟨g1,y,hy,hdn,I1,hlen,hr,htv,ho⟩:=h
   injection hy with hy; subst hy
   have hfrm:=hdn.frm
   have plain:flatV v=true→K (a.put o.dst x) w':=fun hv=>hK _ _ _ (step_flat I hF hfl hd (fun _=>rfl) hfrm (relFV hv hr) (isCalm_flat hv))
   match v,hfv,ho,hr,plain with
   | .slice (.own e) ys,hflat,ho,hr,_ =>
    obtain ⟨n,cs,hn,hn0,hrl,hown,hblk⟩:=ho _ ys rfl
    have hr0:=hr
    simp only [Rel] at hr0
    obtain ⟨ad,nx,cx,hxe,hnx,hcx,_,hrow,hsp,had⟩:=hr0
    rcases hown.2 with ⟨hv,_⟩ | ⟨b,cap,cur,hv,_⟩
    ·rw [hv] at hxe; simp only [Value.slice.injEq] at hxe; exact absurd hxe.1.symm had
    ·have hown':=hown
     rw [hv] at hown'
     have had':ad=some ⟨b,0,none⟩:=by rw [hxe] at hv; simp only [Value.slice.injEq] at hv; exact hv.1
     subst had'
     obtain ⟨q1,q2,q3⟩:=own_vals I1 hrl hown' hrow
     have hub:=(hblk b (by rw [hv]; rfl)).1
     have hnew:w.heap.size≤b:=Nat.le_of_not_lt fun hlt=>by
      have:=(hfrm.old b hlt rfl).2.1
      rw [hub] at this; cases this
     have hlt':b < w'.heap.size:=ownBlock_lt hown (by rw [hv]; rfl)
     obtain ⟨g',hg'⟩:=step_own (so:=none) I hF hfl hd hn hn0 hrl hown' (relF hflat q1) q2 hfrm.os hfrm.tape hfrm.output hfrm.size
      (fun k hk _=>(hfrm.old k hk rfl).1) (fun h=>absurd h (by omega)) hlt' (fun oo u hu=>absurd (G_lt I hu) (by omega)) (by simp)
     rw [← hv] at hg'
     exact hK _ _ _ hg'
   | .slice .nil ys,hf,_,_,plain=>exact plain hf
   | .slice .shut ys,hf,_,_,plain=>exact plain hf
   | .undef,hf,_,_,plain=>exact plain hf
   | .bool _,hf,_,_,plain=>exact plain hf
   | .int _ _,hf,_,_,plain=>exact plain hf
   | .str _,hf,_,_,plain=>exact plain hf
   | .ptr _ _ _,hf,_,_,plain=>exact plain hf
   | .nilp,hf,_,_,plain=>exact plain hf
   | .look _,hf,_,_,plain=>exact plain hf
   | .func _ _,hf,_,_,plain=>exact plain hf
   | .nilf,hf,_,_,plain=>exact plain hf
   | .ifc _ _,hf,_,_,plain=>exact plain hf
   | .nili,hf,_,_,plain=>exact plain hf
   | .agg _,hf,_,_,plain=>exact plain hf
   | .tup _,hf,_,_,plain=>exact plain hf
   | .fresh _,hf,_,_,plain=>exact plain hf
   | .mir _ _ _ _ _,hf,_,_,plain=>exact plain hf
   | .bsl _ _ _ _ _ _,hf,_,_,plain=>exact plain hf
  ·obtain ⟨g1,y,hy,_⟩:=h; cases hy
theorem view_ok (hE:CallOk P cE) (I:Inv P T g w) (hF:FrRel P T g w nt F a.tmps) (ht:∀ t,tame (F t)=true) (hfl:Flat T) (hd:inNt nt o.dst=true) (hnd:∀ c,o.op≠.defer c) {f:Nat} {Xs:List Opd} (hi:CompOf P tk o (.call f Xs)) (hv:seqOp cE o.dst (.callw f Xs) F T=some r) (hG:Goes P T g w nt F a K Q r) :
  o.wpIn (fen ro) 0 P a w K Q:=by
 simp only [seqOp,Option.bind_eq_some_iff] at hv
 obtain ⟨vs,hvs,hv⟩:=hv
 split at hv<;>try (cases hv; done)
 rename_i hlow
 split at hv<;>try (cases hv; done)
 rename_i v T1 hcc
 split at hv<;>try (cases hv; done)
 rename_i hfv
 injection hv with hv; subst hv
 exact view_on hE I hF hfl hd hnd hi hvs hlow hcc hfv fun g' w' a' hst=>hG.ok _ _ rfl _ _ _ hst (tame_putO ht (tame_flatW hfv))
theorem callr_ok (hE:CallOk P cE) (I:Inv P T g w) (hF:FrRel P T g w nt F a.tmps) (ht:∀ t,tame (F t)=true) (hfl:Flat T) (hd:inNt nt o.dst=true) (hnd:∀ c,o.op≠.defer c) {f e m:Nat} {Xs:List Opd} (hi:CompOf P tk o (.call f Xs)) (hem:m=0∨szOf P e=some m) (hv:seqOp cE o.dst (.callr f e m Xs) F T=some r) (hG:Goes P T g w nt F a K Q r) :
  o.wpIn (fen ro) 0 P a w K Q:=by
 cases hi with
 | val _ h=>cases h
 | call _ args ts _ he hXs =>
  have hargs:=rel_args hF hXs
  have hmm:(Xs.map fun x=>strip (evO F x))=(Xs.map (evO F)).map strip:=by simp
  simp only [seqOp] at hv
  rw [hmm] at hv hargs
  split at hv<;>try (cases hv; done)
  rename_i hlow
  split at hv
  ·rename_i e' ys T1 hcc
   obtain ⟨bs,R,hT⟩:=hfl.pos
   rw [hT] at hv
   simp only at hv
   split at hv<;>try (cases hv; done)
   rename_i hcond
   obtain ⟨rfl,hm0,hflat⟩:=hcond
   injection hv with hv; subst hv
   obtain ⟨h1,h2⟩:=pure_call hE I hargs hlow hcc
   have hrun:=run_call_func (a:=a) (cs:=[]) (w:=w) he rfl h1
   rw [List.append_nil] at hrun
   refine wpIn_of_run hnd hrun (upon_enter h2 (fun x w' h=>?_) (fun ch w' h=>?_) (fun w'=>outPost_out))
   ·obtain ⟨g1,y,hy,hdn,I1,hlen,hr,htv,ho⟩:=h
    injection hy with hy; subst hy
    have hfrm:=hdn.frm
    obtain ⟨n,cs,hn,hn0,hrl,hown,hblk⟩:=ho _ ys rfl
    have hem:=hem.resolve_left (by omega)
    rw [hem] at hn; injection hn with hn; subst hn
    have hr0:=hr
    simp only [Rel] at hr0
    obtain ⟨ad,nx,cx,hxe,hnx,hcx,_,hrow,hsp,had⟩:=hr0
    rcases hown.2 with ⟨hv,_⟩ | ⟨b,cap,cur,hv,_⟩
    ·rw [hv] at hxe; simp only [Value.slice.injEq] at hxe; exact absurd hxe.1.symm had
    ·have hown':=hown
     rw [hv] at hown'
     have had':ad=some ⟨b,0,none⟩:=by rw [hxe] at hv; simp only [Value.slice.injEq] at hv; exact hv.1
     subst had'
     obtain ⟨q1,q2,q3⟩:=own_vals I1 hrl hown' hrow
     obtain ⟨ex,k1,k2,k3,k4⟩:=ownsRow_split hown'
     have hub:=(hblk b (by rw [hv]; rfl)).1
     have hnew:w.heap.size≤b:=Nat.le_of_not_lt fun hlt=>by
      have:=(hfrm.old b hlt rfl).2.1
      rw [hub] at this; cases this
     obtain ⟨g',hg'⟩:=step_push (so:=none) (d:=o.dst) (k:=ys.length) (n:=m) (c:=cap) (l:=R.length) I hF ht hfl hd (by rw [hT]; simp) k1 (fun oo u hu=>absurd (G_lt I hu) (by omega)) (.inl ⟨I.U b hnew,hnew⟩) q2 (relF hflat q1) (noOwn_at (flats_own hflat)) hfrm.os hfrm.tape hfrm.output hfrm.size
       (fun q hq _=>(hfrm.old q hq rfl).1) k2 k3 k4 (by simp)
     rw [← hv] at hg'
     subst hT
     rw [lenAt_top,addBox_top] at hg'
     exact hG.ok _ _ rfl _ _ _ hg' (tame_putO ht rfl)
   ·obtain ⟨g1,y,hy,_⟩:=h; cases hy
  ·rename_i T1 hcc
   injection hv with hv; subst hv
   obtain ⟨h1,h2⟩:=pure_call hE I hargs hlow hcc
   have hrun:=run_call_func (a:=a) (cs:=[]) (w:=w) he rfl h1
   rw [List.append_nil] at hrun
   refine wpIn_of_run hnd hrun (upon_enter h2 (fun x w' h=>?_) (fun ch w' h=>?_) (fun w'=>outPost_out))
   ·obtain ⟨g1,y,hy,hdn,I1,hlen,hr,htv,ho⟩:=h
    injection hy with hy; subst hy
    obtain ⟨g',hg'⟩:=step_call0 I hF hfl hd hdn.frm I1 hr htv ho
    exact hG.ok _ _ rfl _ _ _ hg' (tame_putO ht htv)
   ·obtain ⟨g1,y,hy,_⟩:=h; cases hy
  ·rename_i v L T1 hcc
   split at hv<;>try (cases hv; done)
   simp only [Option.bind_eq_some_iff] at hv
   obtain ⟨v',hv',hv⟩:=hv
   split at hv<;>try (cases hv; done)
   rename_i hlow'
   injection hv with hv; subst hv
   obtain ⟨h1,h2⟩:=pure_call hE I hargs hlow hcc
   have hrun:=run_call_func (a:=a) (cs:=[]) (w:=w) he rfl h1
   rw [List.append_nil] at hrun
   refine wpIn_of_run hnd hrun (upon_enter h2 (fun x w' h=>?_) (fun ch w' h=>?_) (fun w'=>outPost_out))
   ·obtain ⟨g1,y,hy,hdn,I1,hlen,hr,hcv⟩:=h
    injection hy with hy; subst hy
    have hT1:T1=[]:=List.eq_nil_of_length_eq_zero hlen
    subst hT1
    have hcalm':=calm_frz hv' hlow'
    have hfz:=frz_ok I1 0 hv' hlow' hr
    have Im:Inv P [] (g1.melt w' 0) w':=inv_melt (inv_pop I1)
    obtain ⟨g',hg'⟩:=step_call0 I hF hfl hd (hdn.frm.trans ((melt_same 0).frm (by rintro ⟨_,_,h,_⟩; cases h))) Im hfz (tame_of_calm hcalm') (fun e xs h=>by subst h; cases hcalm')
    exact hG.ok _ _ rfl _ _ _ hg' (tame_putO ht (tame_of_calm hcalm'))
   ·obtain ⟨g1,y,hy,_⟩:=h; cases hy
  ·cases hv
theorem appr_ok (I:Inv P T g w) (hF:FrRel P T g w nt F a.tmps) (ht:∀ t,tame (F t)=true) (hfl:Flat T) (hd:inNt nt o.dst=true) (hnd:∀ c,o.op≠.defer c) {e n b:Nat} {X Y:Opd} {lv:Option Nat} (hi:CompOf P tk o (.app e n b X Y)) (hv:seqOp cE o.dst (.appr e n b X Y lv) F T=some r) (hG:Goes P T g w nt F a K Q r) :
  o.wpIn (fen ro) 0 P a w K Q:=by
 simp only [seqOp] at hv
 split at hv
 ·rename_i k ys hXe hsrc
  split at hv<;>try (cases hv; done)
  rename_i hcond
  obtain ⟨c1,c2,c3,c4⟩:=hcond
  split at hv
  ·injection hv with hv; subst hv
   obtain ⟨x,h1,h2⟩:=step_apprN I hF hfl hd hi hXe hsrc
   exact go_value hnd h1 (hG.ok _ _ rfl _ _ _ h2 (tame_putO ht rfl))
  ·rename_i hnn
   simp only [Option.bind_eq_some_iff] at hv
   obtain ⟨l,hl,hv⟩:=hv
   split at hv<;>try (cases hv; done)
   rename_i hc2
   injection hv with hv; subst hv
   have hlt:l < T.length:=by
    unfold lvOf at hl
    split at hl
    ·split at hl
     ·split at hl
      ·injection hl with hl; subst hl; assumption
      ·cases hl
     ·cases hl
    ·split at hl
     ·cases hl
     ·injection hl with hl; omega
   obtain ⟨x,w',g',h1,h2⟩:=step_appr0 I hF ht hfl hd hlt hi hXe c1 hsrc c3 c4 (by rintro ⟨rfl,rfl⟩; exact hnn rfl rfl) hc2.1 hc2.2
   exact go_value hnd h1 (hG.ok _ _ rfl _ _ _ h2 (tame_putO (tame_unown ht) rfl))
 ·rename_i l i o' c m e' ys hXe hsrc
  split at hv<;>try (cases hv; done)
  rename_i hcond
  obtain ⟨rfl,rfl,rfl,c4,c5,c6⟩:=hcond
  simp only [Option.bind_eq_some_iff] at hv
  obtain ⟨cs,hcs,old,hold,hv⟩:=hv
  split at hv<;>try (cases hv; done)
  rename_i hc2
  injection hv with hv; subst hv
  obtain ⟨x,w',g',h1,h2⟩:=step_apprB I hF ht hfl hd hi hXe hcs hold hsrc c5 c6 hc2.1 hc2.2.1 hc2.2.2
  exact go_value hnd h1 (hG.ok _ _ rfl _ _ _ h2 (tame_putO ht rfl))
 ·cases hv
theorem appb_ok (I:Inv P T g w) (hF:FrRel P T g w nt F a.tmps) (ht:∀ t,tame (F t)=true) (hfl:Flat T) (hd:inNt nt o.dst=true) (hnd:∀ c,o.op≠.defer c) {e n b:Nat} {X Y:Opd} (hi:CompOf P tk o (.app e n b X Y)) (hv:seqOp cE o.dst (.appb e n b X Y) F T=some r) (hG:Goes P T g w nt F a K Q r) :
  o.wpIn (fen ro) 0 P a w K Q:=by
 simp only [seqOp,Option.map_eq_some_iff] at hv
 obtain ⟨v,hv,rfl⟩:=hv
 obtain ⟨x,w',g',h1,h2⟩:=step_appA I hF hfl hd hi hv
 exact go_value hnd h1 (hG.ok _ _ rfl _ _ _ h2 (tame_putO (tame_unown ht) (tame_appA hv)))
theorem rowr_ok (I:Inv P T g w) (hF:FrRel P T g w nt F a.tmps) (ht:∀ t,tame (F t)=true) (hfl:Flat T) (hd:inNt nt o.dst=true) (hnd:∀ c,o.op≠.defer c) {e n:Nat} {ps:List Opd} (hi:CompOf P tk o (.row e n ps)) (hv:seqOp cE o.dst (.rowr e n ps) F T=some r) (hG:Goes P T g w nt F a K Q r) :
  o.wpIn (fen ro) 0 P a w K Q:=by
 simp only [seqOp] at hv
 obtain ⟨bs,R,hT⟩:=hfl.pos
 rw [hT] at hv
 simp only at hv
 split at hv<;>try (cases hv; done)
 rename_i hcond
 obtain ⟨cs,hcs,rfl⟩:=Option.map_eq_some_iff.1 hv
 obtain ⟨x,w',g',k1,k2⟩:=step_rowb I hF ht hfl hd hT hi hcond.1 hcond.2.1 hcond.2.2 hcs
 exact go_value hnd k1 (hG.ok _ _ rfl _ _ _ k2 (tame_putO ht rfl))
theorem seqOpT_ok (hE:CallOk P cE) (I:Inv P T g w) (hF:FrRel P T g w nt F a.tmps) (ht:∀ t,tame (F t)=true) (hfl:Flat T) (hd:inNt nt o.dst=true) {op0 op:AOp} (hc:compOp P tk o=some op0) (hrt:retag P tk o op0=op) (hv:seqOp cE o.dst op F T=some r) (hG:Goes P T g w nt F a K Q r) :
  o.wpIn (fen ro) 0 P a w K Q:=by
 rcases retag_inv hrt with rfl | ⟨f,xs,rfl,rfl | ⟨e,m,hem,rfl⟩⟩ | ⟨e,n,b,x,y,rfl,rfl | ⟨lv,rfl⟩⟩ | ⟨e,n,ps,rfl,rfl⟩
 ·exact seqOp_ok hE I hF ht hfl hd hc hv hG
 ·exact view_ok hE I hF ht hfl hd (compOp_defer hc) (compOp_inv hc) hv hG
 ·exact callr_ok hE I hF ht hfl hd (compOp_defer hc) (compOp_inv hc) hem hv hG
 ·exact appb_ok I hF ht hfl hd (compOp_defer hc) (compOp_inv hc) hv hG
 ·exact appr_ok I hF ht hfl hd (compOp_defer hc) (compOp_inv hc) hv hG
 ·exact rowr_ok I hF ht hfl hd (compOp_defer hc) (compOp_inv hc) hv hG
theorem seqOper_ok {meth:Nat→String→Option Nat} (hM:MethOk P meth) (hE:CallOk P cE) (I:Inv P T g w) (hF:FrRel P T g w nt F a.tmps) (ht:∀ t,tame (F t)=true) (hfl:Flat T) {ops:Array Oper} {ao:AOper} (hc:compOper P nt tk ops.toList o=some ao)
  (hv:seqOper meth cE ao F T=some r) (hG:Goes P T g w nt F a K Q r) :
  if Region.wanted o (yielded ops a.tmps)=true then o.wpIn (fen ro) 0 P a w K Q else (∀ f,o.about P w a.eval=some f→(fen ro).fn f)∧K (a.put o.dst undef) w:=by
 unfold compOper at hc
 split at hc<;>try (cases hc; done)
 rename_i hd
 simp only [Option.bind_eq_some_iff,Option.map_eq_some_iff] at hc
 obtain ⟨op0,hop,gd,hgd,rfl⟩:=hc
 generalize hrt:retag P tk o op0=op at hv
 unfold seqOper at hv
 simp only at hv
 split at hv
 ·cases hv
 ·rename_i hw
  injection hv with hv; subst hv
  rw [if_neg (by rw [wanted_ok hF hgd hw]; simp)]
  exact ⟨fun _ _=>trivial,hG.ok _ _ rfl _ _ _ (step_quiet I hF hfl hd fun t _=>TmpAt.calm rfl (by simp only [Rel,RelL]; exact ⟨[],rfl,rfl⟩)) (tame_putO ht rfl)⟩
 ·rename_i hw
  rw [if_pos (wanted_ok hF hgd hw)]
  split at hv
  ·rename_i X m Xs
   have hnd:=compOp_defer hop
   have hi:=compOp_inv hop
   have h0:op0=.inv X m Xs:=by
    rcases retag_inv hrt with h | ⟨f,xs,_,h | ⟨e,m,_,h⟩⟩ | ⟨e,n,b,x,y,_,h | ⟨lv,h⟩⟩ | ⟨e,n,ps,_,h⟩
    ·exact h.symm
    all_goals cases h
   subst h0
   cases hi with
   | val _ h=>cases h
   | inv x _ _ args ts _ he hX hXs =>
    have hrx:=rel_opd hF hX
    split at hv<;>try (cases hv; done)
    rename_i t v hXe
    rw [hXe] at hrx
    simp only [Rel] at hrx
    obtain ⟨y,hxe,hry⟩:=hrx
    split at hv<;>try (cases hv; done)
    rename_i f hm
    split at hv<;>try (cases hv; done)
    rename_i htm
    have hargs:RelL g T.length ((v::Xs.map (evO F)).map strip) (y::args.toList.map a.eval):=relL_strip (by simp only [RelL]; exact ⟨y,_,rfl,hry,rel_opds hF hXs⟩)
    obtain ⟨h1,h2⟩:=full_call (ro:=ro) hE I hF ht hd rfl hargs (calm_args' htm) hv hG
    exact wpIn_of_run hnd (run_call_inv he hxe (hM t m f hm y w) h1) h2
  ·exact seqOpT_ok hE I hF ht hfl hd hop hrt hv hG
end
end AM
end Go.Proofs.Ytimfbnojmdnlnaa
end
section
namespace Go.Proofs.Ytimfbnojmdnlnaa
namespace AM
section
variable {P:Program} {T:St} {g:Gh} {w:World} {nt:Nat} {F:Fr} {a:Act} {tk:Option Nat→Bool} {o:Oper} {cE:CE} {K:Act→World→Prop} {Q:Exit→Act→World→Prop} {ro:Option Nat} {r:OR}
def On (P:Program) (T:St) (g:Gh) (w:World) (a:Act) (nt:Nat) (F':Fr) (K:Act→World→Prop):Prop:=∀ g' w' a',StepTo P T g w a nt T F' g' w' a'→K a' w'
theorem putsO (d:Option Nat) (v:V) (F:Fr):puts (outs d v) F=putO F d v:=by cases d<;>rfl
theorem step_fresh (I:Inv P T g w) (hF:FrRel P T g w nt F a.tmps) (hfl:Flat T) {d:Option Nat} (hd:inNt nt d=true) {z:List V} (hc:CompOf P tk o (.al z)) :
  ∃ x w' g',(execOp a.eval o).run P w=.ok (.value x) w'∧StepTo P T g w a nt T (putO F d (.fresh z)) g' w' (a.put d x):=by
 cases hc with
 | val _ h=>cases h
 | alloc e _ he hz =>
  obtain ⟨it,zv,hit,hzv,hzr,hzi,hzo⟩:=rel_zeroOf (P:=P) (g:=g) (d:=0) hz
  let g':=g.lay w.heap.size 0 (tmpUse d) []
  have hnb:(∀ l i,g.use w.heap.size≠.box l i)∧∀ l,g.use w.heap.size≠.loop l:=by rw [I.U _ (Nat.le_refl _)]; exact ⟨fun _ _=>by simp,fun _=>by simp⟩
  have hle:∀ m,Le m g g':=fun m=>le_lay I m (fun o v h _=>absurd h (G_new I)) hnb
  have hsame:Same (fun _=>False) g w g' (w.alloc (.cells zv.cells e)):=⟨rfl,rfl,rfl,by simp,fun b hb _=>by
   have:b≠w.heap.size:=by omega
   exact ⟨heap_alloc_old w _ b hb,by simp [g',Gh.lay,this],fun o=>by simp [g',Gh.lay]⟩⟩
  have hGG:∀ b o,g'.G b o=g.G b o:=fun b o=>by simp [g',Gh.lay]
  have hinv:Inv P T g' (w.alloc (.cells zv.cells e)):=by
   refine I.step hsame (hle _) (fun b o v hv hc=>?_) (fun b hb=>?_) (fun l i cs hc=>.inl ⟨hc,fun h=>h,fun _ h=>h⟩) (fun l p hp=>.inl ⟨hp,fun h=>h,hfl.lp hp⟩) (fun l i hl hn=>?_)
   ·rw [hGG] at hv
    have:=G_lt I hv
    rcases hc with hc | hc
    ·exact hc.1.elim
    ·omega
   ·simp at hb
    have:b≠w.heap.size:=by omega
    simp only [g',Gh.lay,this,if_false]
    exact I.U b (by omega)
   ·exact I.N l i hl hn
  refine ⟨_,_,g',by simp [execOp,he,Instr.alloc,zeroValue,typeInfo,hit,hzv,newVar,newRow]; rfl,hle _,hsame.frm (fun h=>h),hinv,?_,rfl,hfl,put_defs _ _ _,fun b hb hu=>?_⟩
  ·refine FrRel.put hF.size hF.past hd (fun t y _ hy=>(hF.tmp t y hy).same I hsame (hle _) rfl (fun h=>h) (.inr ⟨rfl,fun _ _ h=>h⟩)) (fun t hdt=>⟨?_,fun e xs hv=>(by cases hv),fun z' hv=>?_,fun l i o e xs hv=>(by cases hv)⟩)
   ·simp only [Rel]; exact ⟨_,rfl⟩
   ·injection hv with hv; subst hv
    subst hdt
    exact ⟨_,e,zv.cells.toList,rfl,by simp [g',Gh.lay,tmpUse],by rw [heap_alloc_new],hzi,relL_mono (hle 0) (Nat.le_refl _) _ _ hzr,fun o=>by rw [hGG]; cases h:g.G w.heap.size o with
     | none=>rfl
     | some v=>exact absurd h (G_new I),zero_at hzo⟩
  ·obtain ⟨h1,h2,_⟩:=hsame.old b hb (fun h=>h)
   exact ⟨h2.trans hu,h1⟩
theorem step_stf (I:Inv P T g w) (hF:FrRel P T g w nt F a.tmps) (hfl:Flat T) (hno:o.dst=none) {d n:Nat} {Y:Opd} {z vs:List V} (hc:CompOf P tk o (.st n (.t d) Y))
  (hX:F d=.fresh z) (hvs:cellsOf (strip (evO F Y))=some vs) (hn:vs.length=n) (hp:n≤z.length) (hlow:lowL 0 vs=true) :
  ∃ w' g',(execOp a.eval o).run P w=.ok .skip w'∧StepTo P T g w a nt T (put F d (.fresh (setAt z 0 vs))) g' w' (a.put o.dst undef):=by
 cases hc with
 | val _ h=>cases h
 | store t _ x y _ _ he hsz hxX hyY =>
  have:=opd_tmp hxX; subst this
  have hdn:d < a.tmps.size:=Nat.lt_of_not_le fun h=>by
   rw [hF.past d (by rw [← hF.size]; exact h)] at hX; cases hX
  have hx:=Array.getElem?_eq_getElem hdn
  have htm:=hF.tmp d _ hx
  obtain ⟨b,ty,zs,hxe,hu,hh,hi,hr,hg,ho⟩:=htm.fresh z hX
  have hev:a.eval (.tmp d)=.pointer (some ⟨b,0,none⟩):=by
   rw [← hxe]; simp [Act.eval,hdn]
  obtain ⟨hrv,hiv⟩:=rel_cellsOf hvs (rel_strip (rel_opd hF hyY))
  have hrv0:=relL_low vs _ hlow hrv
  have hvl:=relL_length hrv
  have hul:=relL_length hr
  have hsize:(a.eval y).cells.size=n:=by simp at hvl; omega
  have h1:=oneCells_of_rel hiv hrv
  have hst:=run_storeCells_at P b 0 ty (a.eval y).cells.toList 0 ⟨zs⟩ w hh (by simp; omega) h1
  simp only [Nat.add_zero,Array.length_toList] at hst
  have hexec:(execOp a.eval o).run P w=.ok .skip (w.setRow b (zs.take 0++(a.eval y).cells.toList++zs.drop (0+(a.eval y).cells.size)).toArray):=by
   simp only [execOp,he,Instr.storeAt,hev,Instr.sureAddr,storeVar,Sem.run_bind,Sem.run_pure,Result.andThen_ok,run_sizeOf hsz,hsize,ne_eq,not_true_eq_false,if_false]
   rw [hsize] at hst
   simp at hst
   simp [hst]
  let U:Use→Prop:=fun u=>OfTmp (some d) u
  have hbl:b < w.heap.size:=(Array.getElem?_eq_some_iff.1 hh).1
  have hsame:Same U g w g (w.setRow b (zs.take 0++(a.eval y).cells.toList++zs.drop (0+(a.eval y).cells.size)).toArray) :=
   ⟨rfl,rfl,rfl,by simp,fun k hk hku=>⟨setRow_other w _ k _ (fun e=>hku ⟨d,rfl,e ▸ hu⟩),rfl,fun _=>rfl⟩⟩
  have hinv:Inv P T g (w.setRow b (zs.take 0++(a.eval y).cells.toList++zs.drop (0+(a.eval y).cells.size)).toArray):=by
   refine I.step hsame (Le.refl _ _) (fun k o' v hv hc=>?_) (fun k hk=>?_) (fun l i cs hc=>.inl ⟨hc,ofTmp_box,fun j=>ofTmp_cell⟩) (fun l p hp=>.inl ⟨hp,ofTmp_loop,hfl.lp hp⟩) (fun l i hl hn=>I.N l i hl hn)
   ·obtain ⟨k1,k2⟩:=I.G k o' v hv
    have hne:k≠b:=fun e=>by rw [e,hg] at hv; cases hv
    exact ⟨by rw [cell?_eq (setRow_other w _ k _ hne)]; exact k1,k2⟩
   ·simp at hk
    exact I.U k hk
  have hheap:=setRow_heap w b ⟨zs⟩ (zs.take 0++(a.eval y).cells.toList++zs.drop (0+(a.eval y).cells.size)).toArray ty (0,0) hh
  refine ⟨_,g,hexec,Le.refl _ _,hsame.frm ofTmp_free,hinv,?_,rfl,hfl,put_defs _ _ _,fun k hk hku=>?_⟩
  ·rw [hno]
   refine ⟨hF.size,fun t ht=>?_,fun t y' hy=>?_⟩
   ·have:t≠d:=by
     have:=hF.size
     omega
    rw [put_ne _ _ this]; exact hF.past t ht
   ·by_cases e:t=d
    ·subst e
     rw [put_same]
     simp only [Act.put] at hy
     rw [hx] at hy; injection hy with hy; subst hy
     refine ⟨?_,fun e xs hv=>(by cases hv),fun z' hv=>?_,fun l i o e xs hv=>(by cases hv)⟩
     ·have:=htm.rel
      rw [hX] at this
      simp only [Rel] at this ⊢
      exact this
     ·injection hv with hv; subst hv
      refine ⟨b,ty,_,hxe,hu,hheap,isCells_setAt hi hiv,?_,hg,fun j e' ys hj=>?_⟩
      ·have:=relL_setAt (off:=0) hr hrv0
       simp only [Array.length_toList] at this
       exact this
      ·rw [setAt_get (by omega)] at hj
       split at hj
       ·exact strip_own (cellsOf_own hvs hj).2
       ·exact ho j e' ys hj
    ·rw [put_ne _ _ e]
     exact (hF.tmp t y' hy).same I hsame (Le.refl _ _) rfl (by rintro ⟨s,h1,h2⟩; cases h2; cases h1; exact e rfl) (.inr ⟨rfl,fun _ _=>ofTmp_box⟩)
  ·obtain ⟨h1,h2,_⟩:=hsame.old k hk (by rw [hku]; exact ofTmp_mark)
   exact ⟨h2.trans hku,h1⟩
mutual
theorem eqV_eq:∀ {x y:V},eqV x y=true→x=y
 | .undef,y,h=>by cases y<;>simp [eqV] at h ⊢
 | .bool a,y,h=>by cases y<;>simp [eqV] at h ⊢; exact h
 | .int k a,y,h=>by cases y<;>simp [eqV] at h ⊢; exact h
 | .str a,y,h=>by cases y<;>simp [eqV] at h ⊢; exact h
 | .ptr l i o,y,h=>by cases y<;>simp [eqV,Nat.beq_eq] at h ⊢; exact ⟨h.1.1,h.1.2,h.2⟩
 | .nilp,y,h=>by cases y<;>simp [eqV] at h ⊢
 | .look cs,y,h=>by cases y<;>simp [eqV] at h
 | .slice k xs,y,h=>by
  cases y<;>simp [eqV] at h ⊢
  rename_i j ys
  obtain ⟨h1,h2⟩:=h
  refine ⟨?_,eqR_eq h2⟩
  cases k<;>cases j<;>simp [Nat.beq_eq] at h1 ⊢
  exact h1
 | .func f cs,y,h=>by
  cases y<;>simp [eqV] at h ⊢
  rename_i f' ds
  obtain ⟨h1,h2⟩:=h
  refine ⟨?_,eqL_eq h2⟩
  cases f<;>cases f'<;>simp [Nat.beq_eq] at h1 ⊢
  exact h1
 | .nilf,y,h=>by cases y<;>simp [eqV] at h ⊢
 | .ifc t v,y,h=>by
  cases y<;>simp [eqV,Nat.beq_eq] at h ⊢
  exact ⟨h.1,eqV_eq h.2⟩
 | .nili,y,h=>by cases y<;>simp [eqV] at h ⊢
 | .agg cs,y,h=>by cases y<;>simp [eqV] at h ⊢; exact eqL_eq h
 | .tup cs,y,h=>by cases y<;>simp [eqV] at h ⊢; exact eqL_eq h
 | .fresh cs,y,h=>by cases y<;>simp [eqV] at h
 | .mir l i o e xs,y,h=>by cases y<;>simp [eqV] at h
 | .bsl l i o n m e,y,h=>by
  cases y<;>simp [eqV,Nat.beq_eq] at h ⊢
  exact ⟨h.1.1.1.1.1,h.1.1.1.1.2,h.1.1.1.2,h.1.1.2,h.1.2,h.2⟩
theorem eqL_eq:∀ {x y:List V},eqL x y=true→x=y
 | [],y,h=>by cases y<;>simp [eqL] at h ⊢
 | x::xs,y,h=>by
  cases y<;>simp [eqL] at h ⊢
  exact ⟨eqV_eq h.1,eqL_eq h.2⟩
theorem eqR_eq:∀ {x y:List (List V)},eqR x y=true→x=y
 | [],y,h=>by cases y<;>simp [eqR] at h ⊢
 | x::xs,y,h=>by
  cases y<;>simp [eqR] at h ⊢
  exact ⟨eqL_eq h.1,eqR_eq h.2⟩
end
theorem eqS_eq:∀ {x y:St},eqS x y=true→x=y
 | [],y,h=>by cases y<;>simp [eqS] at h ⊢
 | ⟨bs,lp⟩::xs,y,h=>by
  cases y with
  | nil=>simp [eqS] at h
  | cons T ys =>
   obtain ⟨bs',lp'⟩:=T
   simp only [eqS,Bool.and_eq_true] at h
   obtain ⟨⟨⟨h1,h2⟩,h3⟩,h4⟩:=h
   cases lp<;>simp at h1
   cases lp'<;>simp at h2
   rw [eqR_eq h3,eqS_eq h4]
theorem ownFree_get:∀ {S:St} {l i:Nat} {cs:List V} {o e:Nat} {xs:List (List V)},ownFree S=true→getBox S l i=some cs→cs[o]?=some (.slice (.own e) xs)→False
 | [],_,_,_,_,_,_,_,h,_=>by simp [getBox] at h
 | T::S,l,i,cs,o,e,xs,h,h1,h2=>by
  simp only [ownFree,List.all_cons,Bool.and_eq_true] at h
  simp only [getBox] at h1
  split at h1
  ·have h3:=List.all_eq_true.1 h.1 cs (List.mem_of_getElem? (dz_some h1))
   have h4:=List.all_eq_true.1 h3 _ (List.mem_of_getElem? h2)
   simp at h4
  ·exact ownFree_get (S:=S) h.2 h1 h2
theorem freeOper_ok (hE:CallOk P cE) (I:Inv P T g w) (hF:FrRel P T g w nt F a.tmps) (hfl:Flat T) {ops:Array Oper} {ao:AOper} (hc:compOper P nt tk ops.toList o=some ao) {F':Fr} (hv:freeOper cE ao F T=some F') (hK:On P T g w a nt F' K) :
  if Region.wanted o (yielded ops a.tmps)=true then o.wpIn (fen ro) 0 P a w K Q else (∀ f,o.about P w a.eval=some f→(fen ro).fn f)∧K (a.put o.dst undef) w:=by
 unfold compOper at hc
 split at hc<;>try (cases hc; done)
 rename_i hd
 simp only [Option.bind_eq_some_iff,Option.map_eq_some_iff] at hc
 obtain ⟨op0,hop,gd,hgd,rfl⟩:=hc
 generalize hrt:retag P tk o op0=op at hv
 unfold freeOper at hv
 obtain ⟨ws,hws,rfl⟩:=Option.map_eq_some_iff.1 hv
 unfold freeEff at hws
 simp only at hws
 split at hws
 ·cases hws
 ·rename_i hw
  injection hws with hws; subst hws
  rw [if_neg (by rw [wanted_ok hF hgd hw]; simp)]
  rw [putsO] at hK
  exact ⟨fun _ _=>trivial,hK _ _ _ (step_quiet I hF hfl hd fun t _=>TmpAt.calm rfl (by simp only [Rel,RelL]; exact ⟨[],rfl,rfl⟩))⟩
 ·rename_i hw
  rw [if_pos (wanted_ok hF hgd hw)]
  have hcw:∀ f xs,op0=.call f xs→op=.callw f xs→o.wpIn (fen ro) 0 P a w K Q:=by
   rintro f xs rfl rfl
   simp only at hws
   obtain ⟨vs,hvs,hws⟩:=Option.bind_eq_some_iff.1 hws
   split at hws<;>try (cases hws; done)
   rename_i hlow
   split at hws<;>try (cases hws; done)
   rename_i v T1 hcc
   split at hws<;>try (cases hws; done)
   rename_i hfv
   injection hws with hws; subst hws
   rw [putsO] at hK
   exact view_on hE I hF hfl hd (compOp_defer hop) (compOp_inv hop) hvs hlow hcc hfv hK
  by_cases hcb:∃ f xs,op0=.call f xs∧op=.callw f xs
  ·obtain ⟨f,xs,h1,h2⟩:=hcb
   exact hcw f xs h1 h2
  have heq:op=op0:=by
   rcases retag_inv hrt with h | ⟨f,xs,h0,h | ⟨e,m,_,h⟩⟩ | ⟨e,n,b,x,y,_,h | ⟨lv,h⟩⟩ | ⟨e,n,ps,_,h⟩
   ·exact h
   ·exact absurd ⟨f,xs,h0,h⟩ hcb
   all_goals (subst h; simp [valOp] at hws)
  clear hcw hcb
  subst heq
  clear hrt
  have hnd:=compOp_defer hop
  have hi:=compOp_inv hop
  have quiet:∀ {v:V},Yields P T g w a o v→On P T g w a nt (putO F o.dst v) K→o.wpIn (fen ro) 0 P a w K Q:=by
   rintro v ⟨x,h1,h2,h3⟩ hK
   exact go_value hnd h1 (hK _ _ _ (step_quiet I hF hfl hd fun t _=>TmpAt.calm h3 h2))
  split at hws
  ·-- mv true (.t s)
   rename_i s
   split at hws<;>try (cases hws; done)
   rename_i hts
   injection hws with hws; subst hws
   obtain ⟨x,he,hX⟩:=mv_inv hi
   have:=opd_tmp hX; subst this
   obtain ⟨g',hg'⟩:=step_mv I hF hfl hd hts
   refine go_value hnd (x:=a.eval (.tmp s)) (w':=w) (by rcases he with he | he<;>simp [execOp,he]) (hK g' _ _ ?_)
   simp only [puts]
   rw [putsO]
   exact hg'
  ·rename_i v
   injection hws with hws; subst hws
   obtain ⟨x,he,hX⟩:=mv_inv hi
   rw [putsO] at hK
   exact go_value hnd (x:=a.eval x) (w':=w) (by rcases he with he | he<;>simp [execOp,he]) (hK _ _ _ (step_quiet I hF hfl hd fun t _=>TmpAt.calm (opd_const hX) (rel_opd hF hX)))
  ·injection hws with hws; subst hws
   obtain ⟨x,w',g',h1,h2⟩:=step_fresh I hF hfl hd hi
   rw [putsO] at hK
   exact go_value hnd h1 (hK _ _ _ h2)
  ·-- ld true
   rename_i n gg X
   obtain ⟨t,x,he,hn,hg,hX⟩:=ld_inv hi
   have fall:∀ {ws:List (Nat×V)} (hv:(match valOp cE F T (.ld false n gg X) with | some (.ret v)=>some (outs o.dst v) | _=>none)=some ws),On P T g w a nt (puts ws F) K→o.wpIn (fen ro) 0 P a w K Q:=by
    intro ws hv hK
    split at hv<;>try (cases hv; done)
    rename_i v hvv
    injection hv with hv; subst hv
    rw [putsO] at hK
    exact quiet (y_load I hF he hn hg hX hvv) hK
   split at hws
   ·rename_i l i p hXe
    split at hws
    ·rename_i e xs hown
     split at hws<;>try (cases hws; done)
     rename_i h1
     obtain ⟨rfl,rfl⟩:=h1
     injection hws with hws; subst hws
     simp only [Option.bind_eq_some_iff] at hown
     obtain ⟨cs,hcs,hown⟩:=hown
     rw [putsO] at hK
     obtain ⟨hu,vs,ty,ex,hh,hi',hr,hown',_⟩:=I.B l i cs hcs
     obtain ⟨y,hy,hry⟩:=relL_at hr hown
     have hcell:w.cell? ⟨g.bx l i,p,none⟩=some y:=cell_box hh hy
     have hrx:=rel_opd hF hX
     rw [hXe] at hrx
     simp only [Rel] at hrx
     obtain ⟨_,_,hxe⟩:=hrx
     refine go_value (x:=y) (w':=w) hnd (by simp [execOp,he,hxe,Instr.loadAt,Instr.sureAddr,loadVar,run_isAgg hg,hcell]) (hK _ _ _ (step_quiet I hF hfl hd fun t _=>⟨?_,fun e xs hv=>(by cases hv),fun z hv=>(by cases hv),fun l' i' o' e' xs' hv=>?_⟩))
     ·simp only [Rel] at hry ⊢
      obtain ⟨ad,m,c,k1,k2,k3,k4,k5,k6,k7⟩:=hry
      exact ⟨ad,m,c,k1,k2,k3,k4,k5,k6,k7⟩
     ·simp only [V.mir.injEq] at hv
      obtain ⟨rfl,rfl,rfl,rfl,rfl⟩:=hv
      exact ⟨⟨cs,hcs,hown⟩,hcell⟩
    ·exact fall hws hK
   ·exact fall hws hK
  ·rename_i e n b X Y
   split at hws<;>try (cases hws; done)
   rename_i v hvv
   injection hws with hws; subst hws
   obtain ⟨x,w',g',h1,h2⟩:=step_app I hF hfl hd hi hvv
   refine go_value hnd h1 (hK g' _ _ ?_)
   cases X with
   | t s =>
    simp only [unownW,List.cons_append,List.nil_append,puts,putsO]
    exact h2
   | c _ =>
    simp only [unownW,List.nil_append,putsO]
    exact h2
  ·-- a store into what was made here
   rename_i n d Y
   split at hws<;>try (cases hws; done)
   rename_i z vs hz hvs
   split at hws<;>try (cases hws; done)
   rename_i hcond
   obtain ⟨k1,k2,k3,k4⟩:=hcond
   injection hws with hws; subst hws
   obtain ⟨w',g',h5,h6⟩:=step_stf I hF hfl k4 hi hz hvs k1 k2 k3
   exact wpIn_of_run hnd h5 (hK _ _ _ h6)
  ·-- a call
   rename_i f Xs
   cases hi with
   | val _ h=>cases h
   | call _ args ts _ he hXs =>
    have hargs:=rel_args hF hXs
    have hmm:(Xs.map fun x=>strip (evO F x))=(Xs.map (evO F)).map strip:=by simp
    split at hws
    ·rename_i hlow
     split at hws<;>try (cases hws; done)
     rename_i v hvv
     injection hws with hws; subst hws
     rw [putsO] at hK
     simp only [valOp] at hvv
     rw [if_pos hlow] at hvv
     rw [hmm] at hvv hargs hlow
     split at hvv
     ·rename_i v' T1 hcc
      split at hvv<;>try (cases hvv; done)
      simp at hvv; subst hvv
      obtain ⟨k1,k2⟩:=pure_call hE I hargs hlow hcc
      have hrun:=run_call_func (a:=a) (cs:=[]) (w:=w) he rfl k1
      rw [List.append_nil] at hrun
      refine wpIn_of_run hnd hrun (upon_enter k2 (fun x w' h=>?_) (fun ch w' h=>?_) (fun w'=>outPost_out))
      ·obtain ⟨g1,y,hy,hdn,I1,hlen,hr,htv,ho⟩:=h
       injection hy with hy; subst hy
       obtain ⟨g',hg'⟩:=step_call0 I hF hfl hd hdn.frm I1 hr htv ho
       exact hK _ _ _ hg'
      ·obtain ⟨g1,y,hy,_⟩:=h; cases hy
     ·split at hvv<;>simp at hvv
     ·cases hvv
    ·split at hws<;>try (cases hws; done)
     rename_i htm
     split at hws<;>try (cases hws; done)
     rename_i v T1 hcc
     split at hws<;>try (cases hws; done)
     rename_i hcond
     obtain ⟨hlv,heq,hfree⟩:=hcond
     injection hws with hws; subst hws
     rw [putsO] at hK
     obtain rfl:=eqS_eq heq
     have hm:∀ t y,a.tmps[t]?=some y→∀ l i o e xs,F t≠.mir l i o e xs:=fun t y hy l i o e xs hv=>by
      obtain ⟨⟨cs,hc1,hc2⟩,_⟩:=(hF.tmp t y hy).mir l i o e xs hv
      exact ownFree_get hfree hc1 hc2
     rw [hmm] at hcc htm hargs
     obtain ⟨k1,k2⟩:=hE (.fn f) _ T (.ret v) T hcc (g.drop T.length) w _ (inv_drop I) (clean_drop _) (relL_mono le_drop (Nat.le_succ _) _ _ hargs) (calm_args' htm)
     have hrun:=run_call_func (a:=a) (cs:=[]) (w:=w) he rfl k1
     rw [List.append_nil] at hrun
     refine wpIn_of_run hnd hrun (upon_enter k2 (fun x w' h=>?_) (fun ch w' h=>?_) (fun w'=>outPost_out))
     ·obtain ⟨g1,y,hy,hdn,I1,hlen,hr,htv,ho⟩:=h
      injection hy with hy; subst hy
      obtain ⟨g',hg'⟩:=step_call I hF hm hd hdn I1 hlen hfl hr htv ho
      exact hK _ _ _ hg'
     ·obtain ⟨g1,y,hy,_⟩:=h; cases hy
  ·-- callw: not out of the code as it stands
   exfalso
   cases hi with
   | val _ h=>cases h
  ·split at hws<;>try (cases hws; done)
   rename_i h1 h2 h3 h4 h5 h6 v hvv
   injection hws with hws; subst hws
   rw [putsO] at hK
   by_cases hrow:∃ e n ps,op=.row e n ps
   ·obtain ⟨e,n,ps,rfl⟩:=hrow
    obtain ⟨x,w',g',k1,k2⟩:=step_row I hF hfl hd hi hvv
    exact go_value hnd k1 (hK _ _ _ k2)
   ·exact quiet (valOp_ok I hF hop hvv (fun e n ps h=>hrow ⟨e,n,ps,h⟩) (fun f xs h=>(‹∀ (f:Nat) (xs:List Opd),op=AOp.call f xs→False› f xs h))) hK
end
end AM
end Go.Proofs.Ytimfbnojmdnlnaa
end
section
namespace Go.Proofs.Ytimfbnojmdnlnaa
namespace AM
theorem evO_congr {F F':Fr} {x:Opd} (h:∀ t∈readO x,F t=F' t):evO F x=evO F' x:=by
 cases x with
 | t n=>exact h n (by simp [readO])
 | c v=>rfl
theorem evs_congr {F F':Fr} {xs:List Opd} (h:∀ t∈xs.flatMap readO,F t=F' t):∀ x∈xs,evO F x=evO F' x:=fun x hx=>evO_congr fun t ht=>h t (List.mem_flatMap.2 ⟨x,hx,ht⟩)
theorem fill_congr {F F':Fr}:∀ {ps:List (Nat×Nat×Opd)} {cs:List V},(∀ t∈ps.flatMap fun p=>readO p.2.2,F t=F' t)→fill F cs ps=fill F' cs ps
 | [],cs,_=>rfl
 | (o,n,x)::ps,cs,h=>by
  have h1:evO F x=evO F' x:=evO_congr fun t ht=>h t (by simp [ht])
  simp only [fill,h1]
  split
  ·split
   ·exact fill_congr fun t ht=>h t (by simp only [List.flatMap_cons,List.mem_append]; exact .inr ht)
   ·rfl
  ·rfl
theorem rows_congr {F F':Fr} {n:Nat}:∀ {ps:List Opd},(∀ t∈ps.flatMap readO,F t=F' t)→rows F n ps=rows F' n ps
 | [],_=>rfl
 | x::ps,h=>by
  have h1:evO F x=evO F' x:=evO_congr fun t ht=>h t (by simp [ht])
  simp only [rows,h1,rows_congr (ps:=ps) fun t ht=>h t (by simp only [List.flatMap_cons,List.mem_append]; exact .inr ht)]
theorem bndLo_congr {F F':Fr} {n:Nat} {x:Option Opd} (h:∀ t∈readOO x,F t=F' t):bndLo F n x=bndLo F' n x:=by
 cases x with
 | none=>rfl
 | some x=>simp only [bndLo,evO_congr (F:=F) (F':=F') (x:=x) h]
theorem bndHi_congr {F F':Fr} {n:Nat} {x:Option Opd} (h:∀ t∈readOO x,F t=F' t):bndHi F n x=bndHi F' n x:=by
 cases x with
 | none=>rfl
 | some x=>simp only [bndHi,evO_congr (F:=F) (F':=F') (x:=x) h]
theorem valOp_congr {cE:CE} {S:St} {F F':Fr} {op:AOp} (h:∀ t∈reads op,F t=F' t):valOp cE F S op=valOp cE F' S op:=by
 cases op with
 | mv k x =>
  have h1:evO F x=evO F' x:=evO_congr h
  cases k<;>simp only [valOp,h1]
 | pick c x y =>
  simp only [reads,List.mem_append] at h
  have h1:evO F c=evO F' c:=evO_congr fun t ht=>h t (.inl (.inl ht))
  have h2:evO F x=evO F' x:=evO_congr fun t ht=>h t (.inl (.inr ht))
  have h3:evO F y=evO F' y:=evO_congr fun t ht=>h t (.inr ht)
  simp only [valOp,h1,h2,h3]
 | al z=>rfl
 | box n x=>rfl
 | bld z ps=>simp only [valOp,fill_congr (F:=F) (F':=F') (ps:=ps) h]
 | row e n ps=>simp only [valOp,rows_congr (F:=F) (F':=F') (ps:=ps) h]
 | ld k n g x =>
  have h1:evO F x=evO F' x:=evO_congr h
  cases k<;>simp only [valOp,h1]
 | st n x y=>rfl
 | nc x =>
  have h1:evO F x=evO F' x:=evO_congr h
  simp only [valOp,h1]
 | bin op tk x y =>
  simp only [reads,List.mem_append] at h
  have h1:evO F x=evO F' x:=evO_congr fun t ht=>h t (.inl ht)
  have h2:evO F y=evO F' y:=evO_congr fun t ht=>h t (.inr ht)
  simp only [valOp,h1,h2]
 | un op x =>
  have h1:evO F x=evO F' x:=evO_congr h
  simp only [valOp,h1]
 | cv k x =>
  have h1:evO F x=evO F' x:=evO_congr h
  simp only [valOp,h1]
 | mki t x =>
  have h1:evO F x=evO F' x:=evO_congr h
  simp only [valOp,h1]
 | fn f cs =>
  have h1:=evs_congr (F:=F) (F':=F') (xs:=cs) h
  have h2:(cs.map fun c=>evO F c)=cs.map fun c=>evO F' c:=List.map_congr_left h1
  have h3:(cs.map fun c=>strip (evO F c))=cs.map fun c=>strip (evO F' c):=List.map_congr_left fun x hx=>by rw [h1 x hx]
  simp only [valOp,h2,h3]
 | cut n x lo hi =>
  simp only [reads,List.mem_append] at h
  have h1:evO F x=evO F' x:=evO_congr fun t ht=>h t (.inl (.inl ht))
  have h2:∀ n,bndLo F n lo=bndLo F' n lo:=fun n=>bndLo_congr fun t ht=>h t (.inl (.inr ht))
  have h3:∀ n,bndHi F n hi=bndHi F' n hi:=fun n=>bndHi_congr fun t ht=>h t (.inr ht)
  simp only [valOp,h1,h2,h3]
 | scut x lo hi =>
  simp only [reads,List.mem_append] at h
  have h1:evO F x=evO F' x:=evO_congr fun t ht=>h t (.inl (.inl ht))
  have h2:∀ n,bndLo F n lo=bndLo F' n lo:=fun n=>bndLo_congr fun t ht=>h t (.inl (.inr ht))
  have h3:∀ n,bndHi F n hi=bndHi F' n hi:=fun n=>bndHi_congr fun t ht=>h t (.inr ht)
  simp only [valOp,h1,h2,h3]
 | fa o x =>
  have h1:evO F x=evO F' x:=evO_congr h
  simp only [valOp,h1]
 | fd o n g x =>
  have h1:evO F x=evO F' x:=evO_congr h
  simp only [valOp,h1]
 | ia n x y =>
  simp only [reads,List.mem_append] at h
  have h1:evO F x=evO F' x:=evO_congr fun t ht=>h t (.inl ht)
  have h2:evO F y=evO F' y:=evO_congr fun t ht=>h t (.inr ht)
  simp only [valOp,h1,h2]
 | sx x y =>
  simp only [reads,List.mem_append] at h
  have h1:evO F x=evO F' x:=evO_congr fun t ht=>h t (.inl ht)
  have h2:evO F y=evO F' y:=evO_congr fun t ht=>h t (.inr ht)
  simp only [valOp,h1,h2]
 | ax n len g x y =>
  simp only [reads,List.mem_append] at h
  have h1:evO F x=evO F' x:=evO_congr fun t ht=>h t (.inl ht)
  have h2:evO F y=evO F' y:=evO_congr fun t ht=>h t (.inr ht)
  simp only [valOp,h1,h2]
 | ex x i =>
  have h1:evO F x=evO F' x:=evO_congr h
  simp only [valOp,h1]
 | len s x =>
  have h1:evO F x=evO F' x:=evO_congr h
  simp only [valOp,h1]
 | app e n b x y=>rfl
 | isn neg x =>
  have h1:evO F x=evO F' x:=evO_congr h
  simp only [valOp,h1]
 | mm mx x y =>
  simp only [reads,List.mem_append] at h
  have h1:evO F x=evO F' x:=evO_congr fun t ht=>h t (.inl ht)
  have h2:evO F y=evO F' y:=evO_congr fun t ht=>h t (.inr ht)
  simp only [valOp,h1,h2]
 | call f xs =>
  have h1:=evs_congr (F:=F) (F':=F') (xs:=xs) h
  have h3:(xs.map fun c=>strip (evO F c))=xs.map fun c=>strip (evO F' c):=List.map_congr_left fun x hx=>by rw [h1 x hx]
  simp only [valOp,h3]
 | callv x xs=>rfl
 | inv x m xs=>rfl
 | pan x=>rfl
 | mk e n b z x y=>rfl
 | appr e n b x y lv=>rfl
 | appb e n b x y=>rfl
 | rowr e n ps=>rfl
 | callw f xs=>rfl
 | callr f e m xs=>rfl
theorem wanted_congr {F F':Fr} {gd:Option (Nat×Bool)} (h:∀ t∈(match gd with | some (t,_)=>[t] | none=>[]),F t=F' t):wanted F gd=wanted F' gd:=by
 cases gd with
 | none=>rfl
 | some tb =>
  obtain ⟨t,b⟩:=tb
  simp only [wanted,h t (by simp)]
theorem freeEff_congr {cE:CE} {S:St} {F F':Fr} {o:AOper} (h:∀ t∈readsO o,F t=F' t):freeEff cE o F S=freeEff cE o F' S:=by
 obtain ⟨dst,op,gd⟩:=o
 simp only [readsO,List.mem_append] at h
 have hw:wanted F gd=wanted F' gd:=wanted_congr fun t ht=>h t (.inl ht)
 have hr:∀ t∈reads op,F t=F' t:=fun t ht=>h t (.inr ht)
 have hv:valOp cE F S op=valOp cE F' S op:=valOp_congr hr
 unfold freeEff
 simp only [hw]
 cases op with
 | mv k x =>
  have h1:evO F x=evO F' x:=evO_congr hr
  cases k with
  | false=>simp only [hv]
  | true =>
   cases x with
   | t s =>
    have h2:F s=F' s:=h1
    simp only [h2]
   | c v=>rfl
 | ld k n g x =>
  have h1:evO F x=evO F' x:=evO_congr hr
  cases k with
  | false=>simp only [hv]
  | true =>
   have h2:valOp cE F S (.ld false n g x)=valOp cE F' S (.ld false n g x):=valOp_congr hr
   simp only [h1,h2]
 | app e n b x y =>
  simp only [reads,List.mem_append] at hr
  have h1:evO F x=evO F' x:=evO_congr fun t ht=>hr t (.inl ht)
  have h2:evO F y=evO F' y:=evO_congr fun t ht=>hr t (.inr ht)
  have h3:appOf F e n b x y=appOf F' e n b x y:=by simp only [appOf,h1,h2]
  have h4:unownW F x=unownW F' x:=by
   cases x with
   | t s=>have:F s=F' s:=h1; simp only [unownW,this]
   | c v=>rfl
  simp only [h3,h4]
 | al z=>rfl
 | st n x y =>
  simp only [reads,List.mem_append] at hr
  have h2:evO F y=evO F' y:=evO_congr fun t ht=>hr t (.inr ht)
  cases x with
  | t d =>
   have h1:F d=F' d:=hr d (.inl (by simp [readO]))
   simp only [h1,h2]
  | c v=>simp only [hv]
 | call f xs =>
  have h1:(xs.map fun x=>strip (evO F x))=xs.map fun x=>strip (evO F' x):=List.map_congr_left fun x hx=>by rw [evO_congr fun t ht=>hr t (List.mem_flatMap.2 ⟨x,hx,ht⟩)]
  simp only [hv,h1]
 | callw f xs =>
  have h1:(xs.map fun x=>evO F x)=xs.map fun x=>evO F' x:=List.map_congr_left fun x hx=>evO_congr fun t ht=>hr t (List.mem_flatMap.2 ⟨x,hx,ht⟩)
  simp only [h1]
 | _=>simp only [hv]
theorem keys_outs {d:Option Nat} {v:V}:(outs d v).map (·.1)=(match d with | some d=>[d] | none=>[]):=by cases d<;>rfl
theorem freeEff_keys {cE:CE} {S:St} {F:Fr} {o:AOper} {ws:List (Nat×V)} (h:freeEff cE o F S=some ws):∀ t∈ws.map (·.1),t∈writesO o:=by
 obtain ⟨dst,op,gd⟩:=o
 have hout:∀ v, ∀ t∈(outs dst v).map (·.1),t∈writesO ⟨dst,op,gd⟩:=fun v t ht=>by
  rw [keys_outs] at ht
  exact List.mem_append_left _ ht
 unfold freeEff at h
 simp only at h
 split at h
 ·cases h
 ·injection h with h; subst h; exact hout _
 ·split at h
  ·split at h
   ·injection h with h; subst h
    intro t ht
    rw [List.map_cons] at ht
    rcases List.mem_cons.1 ht with rfl | ht
    ·simp [writesO]
    ·exact hout _ t ht
   ·cases h
  ·injection h with h; subst h; exact hout _
  ·injection h with h; subst h; exact hout _
  ·split at h
   ·split at h
    ·split at h
     ·injection h with h; subst h; exact hout _
     ·cases h
    ·split at h
     ·injection h with h; subst h; exact hout _
     ·cases h
   ·split at h
    ·injection h with h; subst h; exact hout _
    ·cases h
  ·split at h
   ·rename_i e n b x y _ v _
    injection h with h; subst h
    intro t ht
    rw [List.map_append,List.mem_append] at ht
    rcases ht with ht | ht
    ·cases x with
     | t s=>simp only [unownW,List.map_cons,List.map_nil,List.mem_singleton] at ht; subst ht; simp [writesO]
     | c v=>simp [unownW] at ht
    ·exact hout _ t ht
   ·cases h
  ·split at h<;>try (cases h; done)
   split at h<;>cases h
   intro t ht
   simp only [List.map_cons,List.map_nil,List.mem_singleton] at ht
   subst ht
   simp [writesO]
  ·split at h
   ·split at h
    ·injection h with h; subst h; exact hout _
    ·cases h
   ·split at h<;>try (cases h; done)
    split at h<;>try (cases h; done)
    split at h<;>try (cases h; done)
    injection h with h; subst h; exact hout _
  ·obtain ⟨vs,_,h⟩:=Option.bind_eq_some_iff.1 h
   split at h<;>try (cases h; done)
   split at h<;>try (cases h; done)
   split at h<;>try (cases h; done)
   injection h with h; subst h; exact hout _
  ·split at h
   ·injection h with h; subst h; exact hout _
   ·cases h
theorem puts_out:∀ {ws:List (Nat×V)} {F:Fr} {t:Nat},t ∉ ws.map (·.1)→puts ws F t=F t
 | [],_,_,_=>rfl
 | (d,v)::ws,F,t,h=>by
  simp only [List.map_cons,List.mem_cons,not_or] at h
  simp only [puts]
  rw [puts_out h.2,put_ne _ _ h.1]
theorem puts_in:∀ {ws:List (Nat×V)} {F F':Fr} {t:Nat},t∈ws.map (·.1)→puts ws F t=puts ws F' t
 | [],_,_,_,h=>by simp at h
 | (d,v)::ws,F,F',t,h=>by
  simp only [puts]
  by_cases ht:t∈ws.map (·.1)
  ·exact puts_in ht
  ·rw [puts_out ht,puts_out ht]
   have:t=d:=by simpa [ht] using h
   subst this
   rw [put_same,put_same]
theorem disj_iff {xs ys:List Nat} (h:disj xs ys=true):∀ t∈xs,t ∉ ys:=by
 intro t ht hy
 have:=List.all_eq_true.1 h t ht
 simp [hy] at this
theorem free_swap {cE:CE} {S:St} {F F1 F2:Fr} {o q:AOper} (hap:apart o q=true) (h1:freeOper cE q F S=some F1) (h2:freeOper cE o F1 S=some F2):∃ F3,freeOper cE o F S=some F3∧freeOper cE q F3 S=some F2:=by
 simp only [apart,Bool.and_eq_true] at hap
 obtain ⟨⟨⟨ha,hb⟩,hc⟩,_⟩:=hap
 unfold freeOper at *
 obtain ⟨wq,hwq,rfl⟩:=Option.map_eq_some_iff.1 h1
 obtain ⟨wo,hwo,rfl⟩:=Option.map_eq_some_iff.1 h2
 have kq:=freeEff_keys hwq
 have ko:=freeEff_keys hwo
 have e1:freeEff cE o F S=some wo:=by
  rw [← hwo]
  exact freeEff_congr fun t ht=>(puts_out fun h=>disj_iff hc t ht (kq t h)).symm
 have e2:freeEff cE q (puts wo F) S=some wq:=by
  rw [← hwq]
  exact freeEff_congr fun t ht=>puts_out fun h=>disj_iff ha t (ko t h) ht
 refine ⟨puts wo F,by rw [e1]; rfl,by
  rw [e2]
  show some (puts wq (puts wo F))=some (puts wo (puts wq F))
  congr 1
  funext t
  by_cases h1:t∈wq.map (·.1)
  ·have h2:t ∉ wo.map (·.1):=fun h=>disj_iff hb t (ko t h) (kq t h1)
   rw [puts_out h2]
   exact puts_in h1
  ·rw [puts_out h1]
   by_cases h2:t∈wo.map (·.1)
   ·exact puts_in h2
   ·rw [puts_out h2,puts_out h2,puts_out h1]⟩
theorem freeL_first {cE:CE} {S:St} {o:AOper} {post:List AOper} {F':Fr}:∀ {pre:List AOper} {F:Fr},(∀ q∈pre,apart o q=true)→freeL cE S (pre++o::post) F=some F'→∃ F1,freeOper cE o F S=some F1∧freeL cE S (pre++post) F1=some F'
 | [],F,_,h=>by
  simp only [List.nil_append,freeL,Option.bind_eq_some_iff] at h
  obtain ⟨F1,h1,h2⟩:=h
  exact ⟨F1,h1,h2⟩
 | q::pre,F,hap,h=>by
  simp only [List.cons_append,freeL,Option.bind_eq_some_iff] at h
  obtain ⟨Fq,h1,h2⟩:=h
  obtain ⟨F1,h3,h4⟩:=freeL_first (fun q' hq'=>hap q' (List.mem_cons_of_mem _ hq')) h2
  obtain ⟨F3,h5,h6⟩:=free_swap (hap q List.mem_cons_self) h1 h3
  exact ⟨F3,h5,by simp only [List.cons_append,freeL,h6,Option.bind_some]; exact h4⟩
theorem free_tame {cE:CE} {S:St} {F F1:Fr} {o:AOper} (h:freeOper cE o F S=some F1):∀ t,tame (F t)=true→tame (F1 t)=true∨o.dst=some t:=by
 intro t ht
 obtain ⟨dst,op,gd⟩:=o
 unfold freeOper at h
 obtain ⟨ws,hws,rfl⟩:=Option.map_eq_some_iff.1 h
 simp only
 by_cases hd:dst=some t
 ·exact .inr hd
 ·left
  have hout:∀ (v:V) (F:Fr),puts (outs dst v) F t=F t:=fun v F=>puts_out (by
   rw [keys_outs]
   cases ho:dst with
   | none=>simp
   | some d=>rw [ho] at hd; simp; intro h; exact hd (by rw [h]))
  unfold freeEff at hws
  simp only at hws
  split at hws
  ·cases hws
  ·injection hws with hws; subst hws; rw [hout]; exact ht
  ·split at hws
   ·split at hws
    ·rename_i hts
     injection hws with hws; subst hws
     simp only [puts]
     rw [hout]
     simp only [put]
     split
     ·exact tame_strip hts
     ·exact ht
    ·cases hws
   ·injection hws with hws; subst hws; rw [hout]; exact ht
   ·injection hws with hws; subst hws; rw [hout]; exact ht
   ·split at hws
    ·split at hws
     ·split at hws
      ·injection hws with hws; subst hws; rw [hout]; exact ht
      ·cases hws
     ·split at hws
      ·injection hws with hws; subst hws; rw [hout]; exact ht
      ·cases hws
    ·split at hws
     ·injection hws with hws; subst hws; rw [hout]; exact ht
     ·cases hws
   ·split at hws
    ·rename_i e n b x y _ v _
     injection hws with hws; subst hws
     cases x with
     | t s =>
      simp only [unownW,List.cons_append,List.nil_append,puts]
      rw [hout]
      simp only [put]
      split
      ·rename_i h; subst h; exact tame_strip ht
      ·exact ht
     | c v=>simp only [unownW,List.nil_append]; rw [hout]; exact ht
    ·cases hws
   ·split at hws<;>try (cases hws; done)
    rename_i hfr _
    split at hws<;>cases hws
    simp only [puts,put]
    split
    ·rename_i h; subst h; rw [hfr] at ht; cases ht
    ·exact ht
   ·split at hws
    ·split at hws
     ·injection hws with hws; subst hws; rw [hout]; exact ht
     ·cases hws
    ·split at hws<;>try (cases hws; done)
     split at hws<;>try (cases hws; done)
     split at hws<;>try (cases hws; done)
     injection hws with hws; subst hws; rw [hout]; exact ht
   ·obtain ⟨vs,_,hws⟩:=Option.bind_eq_some_iff.1 hws
    split at hws<;>try (cases hws; done)
    split at hws<;>try (cases hws; done)
    split at hws<;>try (cases hws; done)
    injection hws with hws; subst hws; rw [hout]; exact ht
   ·split at hws
    ·injection hws with hws; subst hws; rw [hout]; exact ht
    ·cases hws
def dsts (os:List AOper):List Nat:=os.filterMap (·.dst)
theorem freeL_tame {cE:CE} {S:St}:∀ {os:List AOper} {F F1:Fr},freeL cE S os F=some F1→∀ t,tame (F t)=true→tame (F1 t)=true∨t∈dsts os
 | [],F,F1,h,t,ht=>by simp [freeL] at h; subst h; exact .inl ht
 | o::os,F,F1,h,t,ht=>by
  simp only [freeL,Option.bind_eq_some_iff] at h
  obtain ⟨F2,h1,h2⟩:=h
  rcases free_tame h1 t ht with h3 | h3
  ·rcases freeL_tame h2 t h3 with h4 | h4
   ·exact .inl h4
   ·exact .inr (List.mem_filterMap.2 (by obtain ⟨q,hq,hd⟩:=List.mem_filterMap.1 h4; exact ⟨q,List.mem_cons_of_mem _ hq,hd⟩))
  ·exact .inr (List.mem_filterMap.2 ⟨o,List.mem_cons_self,h3⟩)
theorem getBox_killed:∀ {T:St} {l i l' i':Nat} {cs:List V},getBox (setBox T l i dead) l' i'=some cs→getBox T l' i'=some cs
 | [],_,_,_,_,_,h=>by simp [setBox,getBox] at h
 | L::S,l,i,l',i',cs,h=>by
  simp only [setBox] at h
  split at h
  ·simp only [getBox] at h ⊢
   split at h
   ·rename_i hl
    rw [if_pos hl]
    rw [List.getElem?_set] at h
    split at h
    ·split at h
     ·rw [dz_dead] at h; cases h
     ·simp [dz] at h
    ·exact h
   ·rename_i hl
    rw [if_neg hl]
    exact h
  ·simp only [getBox,length_setBox] at h ⊢
   split at h
   ·rename_i hl
    rw [if_pos hl]; exact h
   ·rename_i hl
    rw [if_neg hl]; exact getBox_killed h
def Ext (S S1:St):Prop:=∀ l i cs,getBox S l i=some cs→getBox S1 l i=some cs
theorem valOp_ext {cE cE':CE} {S S1:St} {F:Fr} {op:AOp} {r:Out} (hx:Ext S S1) (hn:∀ f xs,op≠.call f xs) (h:valOp cE F S op=some r):valOp cE' F S1 op=some r:=by
 cases op with
 | ld k n g x =>
  cases k with
  | true=>exact h
  | false =>
   simp only [valOp] at h ⊢
   cases hv:evO F x with
   | look cs=>rw [hv] at h; exact h
   | ptr l' i' o =>
    rw [hv] at h
    obtain ⟨cs,h1,h2⟩:=Option.bind_eq_some_iff.1 h
    simp only
    rw [hx _ _ _ h1]
    exact h2
   | _=>rw [hv] at h; cases h
 | call f xs=>exact absurd rfl (hn f xs)
 | mv k x=>cases k<;>exact h
 | _=>exact h
theorem freeEff_ext {cE cE':CE} {S S1:St} {F:Fr} {o:AOper} {ws:List (Nat×V)} (hx:Ext S S1) (hn:isCall o=false) (hws:freeEff cE o F S=some ws):freeEff cE' o F S1=some ws:=by
 obtain ⟨dst,op,gd⟩:=o
 have hn':∀ f xs,op≠.call f xs:=fun f xs h=>by subst h; simp [isCall] at hn
 have key:∀ {ws},(match valOp cE F S op with | some (.ret v)=>some (outs dst v) | _=>none)=some ws→(match valOp cE' F S1 op with | some (.ret v)=>some (outs dst v) | _=>none)=some ws:=fun {ws} h=>by
  split at h<;>try (cases h; done)
  rename_i v hv
  rw [valOp_ext hx hn' hv]
  exact h
 unfold freeEff at hws ⊢
 simp only at hws ⊢
 cases hw:wanted F gd with
 | none=>rw [hw] at hws; cases hws
 | some b =>
  rw [hw] at hws
  cases b with
  | false=>exact hws
  | true =>
   simp only at hws ⊢
   cases op with
   | mv k x =>
    cases k with
    | false=>exact key hws
    | true=>cases x<;>exact hws
   | al z=>exact hws
   | ld k n g x =>
    cases k with
    | false=>exact key hws
    | true =>
     have key2:∀ {ws},(match valOp cE F S (.ld false n g x) with | some (.ret v)=>some (outs dst v) | _=>none)=some ws→(match valOp cE' F S1 (.ld false n g x) with | some (.ret v)=>some (outs dst v) | _=>none)=some ws:=fun {ws} h=>by
      split at h<;>try (cases h; done)
      rename_i v hv
      rw [valOp_ext hx (by simp) hv]
      exact h
     simp only at hws ⊢
     cases hv:evO F x with
     | ptr l' i' p =>
      simp only [hv] at hws ⊢
      cases hb:getBox S l' i' with
      | none =>
       rw [hb] at hws
       simp only [Option.bind_none] at hws
       exfalso
       simp only [valOp,hv,hb,Option.bind_none] at hws
       cases hws
      | some cs =>
       rw [hb] at hws
       rw [hx _ _ _ hb]
       simp only [Option.bind_some] at hws ⊢
       split at hws
       ·exact hws
       ·exact key2 hws
     | _=>rw [hv] at hws; exact key2 hws
   | app e n b x y=>exact hws
   | st n x y =>
    cases x with
    | t d=>exact hws
    | c v=>exact key hws
   | call f xs=>exact absurd rfl (hn' f xs)
   | callw f xs=>simp [isCall] at hn
   | _=>exact key hws
theorem freeOper_ext {cE cE':CE} {S S1:St} {F F1:Fr} {o:AOper} (hx:Ext S S1) (hn:isCall o=false) (h:freeOper cE o F S=some F1):freeOper cE' o F S1=some F1:=by
 unfold freeOper at h ⊢
 obtain ⟨ws,hws,rfl⟩:=Option.map_eq_some_iff.1 h
 exact Option.map_eq_some_iff.2 ⟨ws,freeEff_ext hx hn hws,rfl⟩
theorem freeOper_kill {cE cE':CE} {S:St} {F F1:Fr} {o:AOper} {l i:Nat} (hn:isCall o=false) (h:freeOper cE o F (setBox S l i dead)=some F1):freeOper cE' o F S=some F1:=freeOper_ext (fun _ _ _=>getBox_killed) hn h
theorem freeL_kill {cE cE':CE} {S:St} {l i:Nat}:∀ {os:List AOper} {F F1:Fr},(∀ o∈os,isCall o=false)→freeL cE (setBox S l i dead) os F=some F1→freeL cE' S os F=some F1
 | [],F,F1,_,h=>h
 | o::os,F,F1,hn,h=>by
  simp only [freeL,Option.bind_eq_some_iff] at h ⊢
  obtain ⟨F2,h1,h2⟩:=h
  exact ⟨F2,freeOper_kill (hn o List.mem_cons_self) h1,freeL_kill (fun o ho=>hn o (List.mem_cons_of_mem _ ho)) h2⟩
theorem freeOper_call {f:Nat} {A:List V} {v:V} {S:St} {F F1:Fr} {o:AOper} {xs:List Opd} (ho:o.op=.call f xs) (hg:o.gd=none) (h:freeOper (cEv f A v) o F S=some F1):(xs.map fun x=>strip (evO F x))=A∧F1=putO F o.dst v:=by
 obtain ⟨dst,op,gd⟩:=o
 simp only at ho hg
 subst ho; subst hg
 unfold freeOper at h
 obtain ⟨ws,hws,rfl⟩:=Option.map_eq_some_iff.1 h
 simp only [freeEff,wanted] at hws
 split at hws
 ·rename_i hl
  simp only [valOp,cEv] at hws
  rw [if_pos hl] at hws
  by_cases he:eqL (xs.map fun x=>strip (evO F x)) A=true
  ·simp only [he,and_self,if_true] at hws
   split at hws<;>try (cases hws; done)
   rename_i v' hv
   split at hv<;>try (cases hv; done)
   injection hv with hv
   injection hv with hv
   subst hv
   injection hws with hws; subst hws
   exact ⟨eqL_eq he,putsO _ _ _⟩
  ·simp only [he] at hws
   simp at hws
 ·split at hws<;>try (cases hws; done)
  by_cases he:eqL (xs.map fun x=>strip (evO F x)) A=true
  ·simp only [cEv,he,and_self,if_true] at hws
   split at hws<;>try (cases hws; done)
   injection hws with hws; subst hws
   exact ⟨eqL_eq he,putsO _ _ _⟩
  ·simp [cEv,he] at hws
theorem rowsB_congr {F F':Fr} {l n:Nat}:∀ {ps:List Opd},(∀ t∈ps.flatMap readO,F t=F' t)→rowsB F l n ps=rowsB F' l n ps
 | [],_=>rfl
 | x::ps,h=>by
  have h1:evO F x=evO F' x:=evO_congr fun t ht=>h t (by simp [ht])
  simp only [rowsB,h1,rowsB_congr (ps:=ps) fun t ht=>h t (by simp only [List.flatMap_cons,List.mem_append]; exact .inr ht)]
theorem mkEff_congr {F F':Fr} {o:AOper} {S:St} (h:∀ t∈readsO o,F t=F' t):mkEff o F S=mkEff o F' S:=by
 obtain ⟨dst,op,gd⟩:=o
 simp only [readsO,List.mem_append] at h
 have hr:∀ t∈reads op,F t=F' t:=fun t ht=>h t (.inr ht)
 cases gd with
 | some q=>rfl
 | none =>
  cases op with
  | rowr e n ps =>
   cases S with
   | nil=>rfl
   | cons T R=>simp only [mkEff,rowsB_congr (F:=F) (F':=F') (ps:=ps) hr]
  | appr e n b x y lv =>
   simp only [reads,List.mem_append] at hr
   have h1:evO F x=evO F' x:=evO_congr fun t ht=>hr t (.inl (.inl ht))
   have h2:evO F y=evO F' y:=evO_congr fun t ht=>hr t (.inl (.inr ht))
   have h4:unownW F x=unownW F' x:=by
    cases x with
    | t s=>have:F s=F' s:=h1; simp only [unownW,this]
    | c v=>rfl
   have h5:lvOf F S none=lvOf F' S none:=rfl
   cases lv with
   | none=>simp only [mkEff,h1,h2,h4,h5]
   | some l=>rfl
  | _=>rfl
theorem isTk_congr {D:Option (Nat×Nat×Option Nat)} {F F':Fr} {o:AOper} (h:∀ t∈readsO o,F t=F' t):isTk D o F=isTk D o F':=by
 obtain ⟨dst,op,gd⟩:=o
 simp only [readsO,List.mem_append] at h
 have hr:∀ t∈reads op,F t=F' t:=fun t ht=>h t (.inr ht)
 cases op with
 | ld k n g x =>
  have h1:evO F x=evO F' x:=evO_congr hr
  unfold isTk
  simp only
  split
  ·rename_i heq
   cases heq
   rw [h1]
  ·rfl
 | _=>unfold isTk; simp only
theorem clEff_congr {cE:CE} {C:Option (St×St)} {F F':Fr} {o:AOper} (h:∀ t∈readsO o,F t=F' t):clEff cE C o F=clEff cE C o F':=by
 obtain ⟨dst,op,gd⟩:=o
 simp only [readsO,List.mem_append] at h
 have hr:∀ t∈reads op,F t=F' t:=fun t ht=>h t (.inr ht)
 cases op with
 | call f xs =>
  have h1:(xs.map fun x=>strip (evO F x))=xs.map fun x=>strip (evO F' x):=List.map_congr_left fun x hx=>by rw [evO_congr fun t ht=>hr t (List.mem_flatMap.2 ⟨x,hx,ht⟩)]
  cases gd with
  | some q=>rfl
  | none=>cases C with
   | none=>rfl
   | some TT=>simp only [clEff,h1]
 | _=>cases gd<;>cases C<;>rfl
theorem clEff_inv {cE:CE} {C:Option (St×St)} {F:Fr} {o:AOper} {ws:List (Nat×V)} (h:clEff cE C o F=some ws):∃ f xs T0 T1 v,o.gd=none∧o.op=.call f xs∧C=some (T0,T1)∧ws=outs o.dst v∧low 0 v=true ∧
  ((lowL 0 (xs.map fun x=>strip (evO F x))=true∧∃ T',cE (.fn f) (xs.map fun x=>strip (evO F x)) []=some (.ret v,T')) ∨
   (¬ lowL 0 (xs.map fun x=>strip (evO F x))=true∧tames (xs.map fun x=>strip (evO F x))=true∧cE (.fn f) (xs.map fun x=>strip (evO F x)) T0=some (.ret v,T0)∧cE (.fn f) (xs.map fun x=>strip (evO F x)) T1=some (.ret v,T1)∧eqS T0 T0=true∧eqS T1 T1=true)):=by
 unfold clEff at h
 split at h<;>try (cases h; done)
 rename_i f xs T0 T1 hg ho
 simp only at h
 split at h
 ·rename_i hl
  split at h<;>try (cases h; done)
  rename_i v T' hc
  split at h<;>cases h
  rename_i hv
  exact ⟨f,xs,T0,T1,v,hg,ho,rfl,rfl,hv, .inl ⟨hl,T',hc⟩⟩
 ·rename_i hl
  split at h<;>try (cases h; done)
  rename_i ht
  split at h<;>try (cases h; done)
  rename_i v T0' v' T1' hc0 hc1
  split at h<;>cases h
  rename_i hcond
  obtain ⟨h1,h2,h3,h4⟩:=hcond
  have e2:=eqV_eq h2
  have e3:=eqS_eq h3
  have e4:=eqS_eq h4
  subst e2; subst e3; subst e4
  exact ⟨f,xs,T0,T1,v,hg,ho,rfl,rfl,h1, .inr ⟨hl,ht,hc0,hc1,h3,h4⟩⟩
theorem chnEff_congr {cE:CE} {C:Option (St×St)} {D:Option (Nat×Nat×Option Nat)} {S0:St} {F F':Fr} {o:AOper} {S:St} (h:∀ t∈readsO o,F t=F' t):chnEff cE C D S0 o F S=chnEff cE C D S0 o F' S:=by
 unfold chnEff
 rw [mkEff_congr h,freeEff_congr h,isTk_congr h,clEff_congr h]
theorem mkEff_keys {F:Fr} {o:AOper} {S S1:St} {ws:List (Nat×V)} {k:Option (Nat×Nat)} (h:mkEff o F S=some (ws,S1,k)):∀ t∈ws.map (·.1),t∈writesO o:=by
 obtain ⟨dst,op,gd⟩:=o
 have hout:∀ v, ∀ t∈(outs dst v).map (·.1),t∈writesO ⟨dst,op,gd⟩:=fun v t ht=>by
  rw [keys_outs] at ht
  exact List.mem_append_left _ ht
 cases gd with
 | some q=>cases h
 | none =>
  cases op with
  | rowr e n ps =>
   cases S with
   | nil=>cases h
   | cons T R =>
    simp only [mkEff] at h
    split at h<;>try (cases h; done)
    obtain ⟨cs,_,h2⟩:=Option.map_eq_some_iff.1 h
    injection h2 with h2 _
    subst h2; exact hout _
  | appr e n b x y lv =>
   cases lv with
   | some l=>cases h
   | none =>
    simp only [mkEff] at h
    split at h
    ·split at h<;>try (cases h; done)
     obtain ⟨l,_,h⟩:=Option.bind_eq_some_iff.1 h
     split at h<;>try (cases h; done)
     simp only [Option.some.injEq,Prod.mk.injEq] at h
     obtain ⟨h2,_⟩:=h
     subst h2
     intro t ht
     rw [List.map_append,List.mem_append] at ht
     rcases ht with ht | ht
     ·cases x with
      | t s=>simp only [unownW,List.map_cons,List.map_nil,List.mem_singleton] at ht; subst ht; simp [writesO]
      | c v=>simp [unownW] at ht
     ·exact hout _ t ht
    ·split at h<;>try (cases h; done)
     obtain ⟨cs,_,h⟩:=Option.bind_eq_some_iff.1 h
     obtain ⟨old,_,h⟩:=Option.bind_eq_some_iff.1 h
     split at h<;>try (cases h; done)
     simp only [Option.some.injEq,Prod.mk.injEq] at h
     obtain ⟨h2,_⟩:=h
     subst h2; exact hout _
    ·cases h
  | _=>cases h
theorem tkEff_inv {D:Option (Nat×Nat×Option Nat)} {o:AOper} {S S1:St} {ws:List (Nat×V)} (h:tkEff D o S=some (ws,S1)):∃ l i p cs e xs,D=some (l,i,some p)∧getBox S l i=some cs∧cs[p]?=some (.slice (.own e) xs)∧ws=outs o.dst (.slice (.own e) xs)∧S1=setBox S l i (cs.set p (.slice .shut xs)):=by
 unfold tkEff at h
 split at h<;>try (cases h; done)
 rename_i l i p
 obtain ⟨cs,h1,h⟩:=Option.bind_eq_some_iff.1 h
 split at h<;>try (cases h; done)
 rename_i e xs h2
 simp only [Option.some.injEq,Prod.mk.injEq] at h
 exact ⟨l,i,p,cs,e,xs,rfl,h1,h2,h.1.symm,h.2.symm⟩
theorem chnEff_keys {cE:CE} {C:Option (St×St)} {D:Option (Nat×Nat×Option Nat)} {S0:St} {F:Fr} {o:AOper} {S S1:St} {ws:List (Nat×V)} (h:chnEff cE C D S0 o F S=some (ws,S1)):∀ t∈ws.map (·.1),t∈writesO o:=by
 unfold chnEff at h
 split at h
 ·split at h<;>try (cases h; done)
  obtain ⟨⟨ws',S',k⟩,h1,h⟩:=Option.bind_eq_some_iff.1 h
  split at h<;>cases h
  exact mkEff_keys h1
 ·split at h
  ·obtain ⟨ws',h1,h2⟩:=Option.map_eq_some_iff.1 h
   cases h2
   obtain ⟨_,_,_,_,v,_,_,_,rfl,_⟩:=clEff_inv h1
   intro t ht
   rw [keys_outs] at ht
   exact List.mem_append_left _ ht
  split at h
  ·obtain ⟨l,i,p,cs,e,xs,_,_,_,rfl,_⟩:=tkEff_inv h
   intro t ht
   rw [keys_outs] at ht
   exact List.mem_append_left _ ht
  ·obtain ⟨ws',h1,h2⟩:=Option.bind_eq_some_iff.1 h
   split at h2<;>cases h2
   exact freeEff_keys h1
theorem chnEff_no {cE:CE} {C:Option (St×St)} {D:Option (Nat×Nat×Option Nat)} {S0:St} {F:Fr} {o:AOper} {S S1:St} {ws:List (Nat×V)} (hn:isMk o=false) (ht:isTk D o F=false) (h:chnEff cE C D S0 o F S=some (ws,S1)):S1=S∧(∀ S2,chnEff cE C D S0 o F S2=some (ws,S2)) ∧
  ((isCall o=false∧freeEff (fun _ _ _=>none) o F S0=some ws∧∀ q∈ws,tame q.2=true)∨(isCall o=true∧clEff cE C o F=some ws)):=by
 unfold chnEff at h
 rw [if_neg (by simp [hn])] at h
 split at h
 ·rename_i hcl
  obtain ⟨ws',h1,h2⟩:=Option.map_eq_some_iff.1 h
  cases h2
  exact ⟨rfl,fun S2=>by unfold chnEff; rw [if_neg (by simp [hn]),if_pos hcl,h1]; rfl, .inr ⟨hcl,h1⟩⟩
 ·rename_i hcl
  rw [if_neg (by simp [ht])] at h
  obtain ⟨ws',h1,h2⟩:=Option.bind_eq_some_iff.1 h
  split at h2<;>cases h2
  rename_i htm
  exact ⟨rfl,fun S2=>by unfold chnEff; rw [if_neg (by simp [hn]),if_neg hcl,if_neg (by simp [ht]),h1]; simp only [Option.bind_some,htm,if_true], .inl ⟨by simpa using hcl,h1,fun q hq=>List.all_eq_true.1 htm q hq⟩⟩
theorem chnEff_mk {cE:CE} {C:Option (St×St)} {D:Option (Nat×Nat×Option Nat)} {S0:St} {F:Fr} {o:AOper} {S S1:St} {ws:List (Nat×V)} (hn:isMk o=true) (h:chnEff cE C D S0 o F S=some (ws,S1)):noTake D=true∧C=none∧∃ k,mkEff o F S=some (ws,S1,k)∧okKill D k=true:=by
 unfold chnEff at h
 rw [if_pos hn] at h
 split at h<;>try (cases h; done)
 rename_i hnt
 obtain ⟨⟨ws',S',k⟩,h1,h⟩:=Option.bind_eq_some_iff.1 h
 split at h<;>cases h
 rename_i hk
 exact ⟨hnt.1,by simpa using hnt.2,k,h1,hk⟩
theorem isTk_mk {D:Option (Nat×Nat×Option Nat)} {F:Fr} {o:AOper} (h:isTk D o F=true):isMk o=false∧isCall o=false∧noTake D=false:=by
 obtain ⟨dst,op,gd⟩:=o
 unfold isTk at h
 split at h
 ·rename_i l i p x hd hg hop
  simp only at hop hg
  subst hop
  exact ⟨rfl,rfl,rfl⟩
 ·cases h
theorem chnEff_tk {cE:CE} {C:Option (St×St)} {D:Option (Nat×Nat×Option Nat)} {S0:St} {F:Fr} {o:AOper} {S S1:St} {ws:List (Nat×V)} (ht:isTk D o F=true) (h:chnEff cE C D S0 o F S=some (ws,S1)):tkEff D o S=some (ws,S1):=by
 obtain ⟨h1,h2,_⟩:=isTk_mk ht
 unfold chnEff at h
 rw [if_neg (by simp [h1]),if_neg (by simp [h2]),if_pos ht] at h
 exact h
theorem getBox_on:∀ {T:St} {l i:Nat} {v w:List V},getBox (setBox T l i v) l i=some w→w=v
 | [],_,_,_,_,h=>by simp [setBox,getBox] at h
 | L::S,l,i,v,w,h=>by
  simp only [setBox] at h
  split at h
  ·rename_i hl
   simp only [getBox,hl,if_true] at h
   have h1:=dz_some h
   rw [List.getElem?_set] at h1
   simp only [if_true] at h1
   split at h1
   ·exact (Option.some.inj h1).symm
   ·cases h1
  ·rename_i hl
   simp only [getBox,length_setBox,hl,if_false] at h
   exact getBox_on h
theorem getBox_off {l i l' i':Nat} {v:List V} (h:¬ (l'=l∧i'=i)):∀ {T:St},getBox (setBox T l i v) l' i'=getBox T l' i'
 | []=>rfl
 | L::S=>by
  simp only [setBox]
  split
  ·rename_i hl
   simp only [getBox]
   split
   ·rename_i hl'
    have hi:i'≠i:=fun e=>h ⟨by omega,e⟩
    rw [List.getElem?_set_ne (Ne.symm hi)]
   ·rfl
  ·rename_i hl
   simp only [getBox,length_setBox,getBox_off h (T:=S)]
theorem chn_swap {cE:CE} {C:Option (St×St)} {D:Option (Nat×Nat×Option Nat)} {S0:St} {F:Fr} {S Sq S2:St} {o q:AOper} {wq wo:List (Nat×V)} (hap:apart o q=true) (h1:chnEff cE C D S0 q F S=some (wq,Sq)) (h2:chnEff cE C D S0 o (puts wq F) Sq=some (wo,S2)) :
  ∃ S3,chnEff cE C D S0 o F S=some (wo,S3)∧chnEff cE C D S0 q (puts wo F) S3=some (wq,S2)∧puts wq (puts wo F)=puts wo (puts wq F):=by
 simp only [apart,Bool.and_eq_true,Bool.not_eq_true'] at hap
 obtain ⟨⟨⟨ha,hb⟩,hc⟩,hd⟩:=hap
 have kq:=chnEff_keys h1
 have ko:=chnEff_keys h2
 have r1:∀ t∈readsO o,F t=puts wq F t:=fun t ht=>(puts_out fun h=>disj_iff hc t ht (kq t h)).symm
 have r2:∀ t∈readsO q,puts wo F t=F t:=fun t ht=>puts_out fun h=>disj_iff ha t (ko t h) ht
 have c1:∀ S,chnEff cE C D S0 o F S=chnEff cE C D S0 o (puts wq F) S:=fun S=>chnEff_congr r1
 have c2:∀ S,chnEff cE C D S0 q (puts wo F) S=chnEff cE C D S0 q F S:=fun S=>chnEff_congr r2
 have hp:puts wq (puts wo F)=puts wo (puts wq F):=by
  funext t
  by_cases h1:t∈wq.map (·.1)
  ·have h2:t ∉ wo.map (·.1):=fun h=>disj_iff hb t (ko t h) (kq t h1)
   rw [puts_out h2]
   exact puts_in h1
  ·rw [puts_out h1]
   by_cases h2:t∈wo.map (·.1)
   ·exact puts_in h2
   ·rw [puts_out h2,puts_out h2,puts_out h1]
 by_cases po:isMk o=false∧isTk D o (puts wq F)=false
 ·obtain ⟨rfl,k,_⟩:=chnEff_no po.1 po.2 h2
  exact ⟨S,by rw [c1]; exact k S,by rw [c2]; exact h1,hp⟩
 ·by_cases pq:isMk q=false∧isTk D q F=false
  ·obtain ⟨rfl,k,_⟩:=chnEff_no pq.1 pq.2 h1
   exact ⟨S2,by rw [c1]; exact h2,by rw [c2]; exact k S2,hp⟩
  ·exfalso
   cases mo:isMk o with
   | true =>
    have n1:=(chnEff_mk mo h2).1
    cases mq:isMk q with
    | true=>rw [mo,mq] at hd; cases hd
    | false =>
     have tq:isTk D q F=true:=by simpa [mq] using pq
     rw [(isTk_mk tq).2.2] at n1; cases n1
   | false =>
    have to:isTk D o (puts wq F)=true:=by simpa [mo] using po
    cases mq:isMk q with
    | true =>
     have n1:=(chnEff_mk mq h1).1
     rw [(isTk_mk to).2.2] at n1; cases n1
    | false =>
     have tq:isTk D q F=true:=by simpa [mq] using pq
     obtain ⟨l,i,p,cs,e,xs,e1,e2,e3,_,rfl⟩:=tkEff_inv (chnEff_tk tq h1)
     obtain ⟨l',i',p',cs',e',xs',f1,f2,f3,_,_⟩:=tkEff_inv (chnEff_tk to h2)
     rw [e1] at f1
     simp only [Option.some.injEq,Prod.mk.injEq] at f1
     obtain ⟨rfl,rfl,rfl⟩:=f1
     rw [getBox_on f2] at f3
     have hlt:=(List.getElem?_eq_some_iff.1 e3).1
     rw [List.getElem?_set_self hlt] at f3
     cases f3
theorem chnL_first {cE:CE} {C:Option (St×St)} {D:Option (Nat×Nat×Option Nat)} {S0:St} {o:AOper} {post:List AOper} {r:Fr×St}:∀ {pre:List AOper} {F:Fr} {S:St},(∀ q∈pre,apart o q=true)→chnL cE C D S0 (pre++o::post) F S=some r→∃ ws S1,chnEff cE C D S0 o F S=some (ws,S1)∧chnL cE C D S0 (pre++post) (puts ws F) S1=some r
 | [],F,S,_,h=>by
  simp only [List.nil_append,chnL,Option.bind_eq_some_iff] at h
  obtain ⟨⟨ws,S1⟩,h1,h2⟩:=h
  exact ⟨ws,S1,h1,h2⟩
 | q::pre,F,S,hap,h=>by
  simp only [List.cons_append,chnL,Option.bind_eq_some_iff] at h
  obtain ⟨⟨wq,Sq⟩,h1,h2⟩:=h
  obtain ⟨wo,S2,h3,h4⟩:=chnL_first (fun q' hq'=>hap q' (List.mem_cons_of_mem _ hq')) h2
  obtain ⟨S3,h5,h6,h7⟩:=chn_swap (hap q List.mem_cons_self) h1 h3
  exact ⟨wo,S3,h5,by simp only [List.cons_append,chnL,h6,Option.bind_some,h7]; exact h4⟩
theorem puts_app:∀ {ws vs:List (Nat×V)} {F:Fr},puts (ws++vs) F=puts vs (puts ws F)
 | [],_,_=>rfl
 | (d,v)::ws,vs,F=>by simp only [List.cons_append,puts,puts_app]
theorem puts_tame {ws:List (Nat×V)} {F:Fr} (hw:∀ q∈ws,tame q.2=true) (hF:∀ t,tame (F t)=true):∀ t,tame (puts ws F t)=true:=by
 induction ws generalizing F with
 | nil=>exact hF
 | cons q ws ih =>
  obtain ⟨d,v⟩:=q
  simp only [puts]
  refine ih (fun q hq=>hw q (List.mem_cons_of_mem _ hq)) fun t=>?_
  simp only [put]
  split
  ·exact hw (d,v) List.mem_cons_self
  ·exact hF t
theorem ext_add:∀ {T:St} {l:Nat} {z:List V},Ext T (addBox T l z)
 | [],l,z=>fun _ _ _ h=>h
 | L::S,l,z=>by
  intro l' i cs h
  simp only [addBox]
  split
  ·rename_i hl
   simp only [getBox] at h ⊢
   split at h
   ·rename_i hl'
    rw [if_pos hl']
    have hi:i < L.bs.length:=Nat.lt_of_not_le fun hle=>by
     rw [List.getElem?_eq_none hle] at h; cases h
    rw [List.getElem?_append_left hi]
    exact h
   ·rename_i hl'
    rw [if_neg hl']; exact h
  ·rename_i hl
   have hlen:∀ {S:St},(addBox S l z).length=S.length:=by
    intro S
    induction S with
    | nil=>rfl
    | cons T S ih=>simp only [addBox]; split<;>simp [ih]
   simp only [getBox,hlen] at h ⊢
   split at h
   ·rename_i hl'; rw [if_pos hl']; exact h
   ·rename_i hl'; rw [if_neg hl']; exact ext_add _ _ _ h
def Gone (D:Option (Nat×Nat×Option Nat)) (S0:St):Prop:=∀ l i k,D=some (l,i,k)→getBox S0 l i=none
theorem ext_set {D:Option (Nat×Nat×Option Nat)} {S0 S:St} {l i:Nat} {k:Option Nat} {v:List V} (hg:Gone D S0) (hd:D=some (l,i,k)) (hx:Ext S0 S):Ext S0 (setBox S l i v):=by
 intro l' i' cs h
 rw [getBox_off]
 ·exact hx _ _ _ h
 ·rintro ⟨rfl,rfl⟩
  rw [hg _ _ _ hd] at h; cases h
theorem mkEff_seq {meth:Nat→String→Option Nat} {cE:CE} {F:Fr} {o:AOper} {S S1:St} {ws:List (Nat×V)} {k:Option (Nat×Nat)} (h:mkEff o F S=some (ws,S1,k)):seqOper meth cE o F S=some (.ok (puts ws F) S1)∧∀ D S0,okKill D k=true→Gone D S0→Ext S0 S→Ext S0 S1:=by
 obtain ⟨dst,op,gd⟩:=o
 cases gd with
 | some q=>cases h
 | none =>
  cases op with
  | rowr e n ps =>
   cases S with
   | nil=>cases h
   | cons T R =>
    simp only [mkEff] at h
    split at h<;>try (cases h; done)
    rename_i hc
    obtain ⟨cs,h1,h2⟩:=Option.map_eq_some_iff.1 h
    simp only [Prod.mk.injEq] at h2
    obtain ⟨rfl,rfl,rfl⟩:=h2
    refine ⟨?_,fun D S0 _ _ hx l i c hb=>?_⟩
    ·simp only [seqOper,wanted,seqOp]
     rw [if_pos hc,h1]
     simp only [Option.map_some,putsO]
    ·have:=ext_add (l:=R.length) (z:=cs) _ _ _ (hx _ _ _ hb)
     rwa [addBox_top] at this
  | appr e n b x y lv =>
   cases lv with
   | some l=>cases h
   | none =>
    simp only [mkEff] at h
    split at h
    ·rename_i k' ys hx hy
     split at h<;>try (cases h; done)
     rename_i hc
     obtain ⟨c1,c2,c3,c4,c5⟩:=hc
     obtain ⟨l,hl,h⟩:=Option.bind_eq_some_iff.1 h
     split at h<;>try (cases h; done)
     rename_i hlo
     simp only [Option.some.injEq,Prod.mk.injEq] at h
     obtain ⟨rfl,rfl,rfl⟩:=h
     refine ⟨?_,fun D S0 _ _ hx l i c hb=>ext_add _ _ _ (hx _ _ _ hb)⟩
     have hf:puts (unownW F x++outs dst (.bsl l (lenAt S l) 0 ys.length n e)) F=putO (unown F x) dst (.bsl l (lenAt S l) 0 ys.length n e):=by
      rw [puts_app,putsO]
      cases x<;>rfl
     rw [hf]
     simp only [seqOper,wanted,seqOp,hx,hy]
     rw [if_pos ⟨c1,c2,c3,c4⟩]
     obtain ⟨h7,h8⟩:=hlo
     cases k' with
     | nil =>
      cases ys with
      | nil=>simp [isNilK] at c5
      | cons y ys=>simp only [hl,Option.bind_some,h7,h8,and_self,if_true]
     | shut=>simp only [hl,Option.bind_some,h7,h8,and_self,if_true]
     | own _=>simp only [hl,Option.bind_some,h7,h8,and_self,if_true]
    ·rename_i l i f c m e' ys hx hy
     split at h<;>try (cases h; done)
     rename_i hc
     obtain ⟨cs,h1,h⟩:=Option.bind_eq_some_iff.1 h
     obtain ⟨old,h2,h⟩:=Option.bind_eq_some_iff.1 h
     split at h<;>try (cases h; done)
     rename_i hlo
     simp only [Option.some.injEq,Prod.mk.injEq] at h
     obtain ⟨rfl,rfl,rfl⟩:=h
     refine ⟨?_,fun D S0 hk hg hxx=>?_⟩
     ·simp only [seqOper,wanted,seqOp,hx,hy]
      rw [if_pos hc,h1,Option.bind_some,h2,Option.bind_some,if_pos hlo,putsO]
     ·simp only [okKill] at hk
      split at hk
      ·rename_i l' i'
       simp only [Bool.and_eq_true,Nat.beq_eq] at hk
       obtain ⟨rfl,rfl⟩:=hk
       have h3:=ext_set (v:=dead) hg rfl hxx
       intro l i c hb
       exact ext_add _ _ _ (h3 _ _ _ hb)
      ·cases hk
    ·cases h
  | _=>cases h
theorem tkEff_seq {meth:Nat→String→Option Nat} {cE:CE} {D:Option (Nat×Nat×Option Nat)} {F:Fr} {o:AOper} {S S1:St} {ws:List (Nat×V)} (ht:isTk D o F=true) (h:tkEff D o S=some (ws,S1)):seqOper meth cE o F S=some (.ok (puts ws F) S1)∧∀ S0,Gone D S0→Ext S0 S→Ext S0 S1:=by
 obtain ⟨l,i,p,cs,e,xs,rfl,h1,h2,rfl,rfl⟩:=tkEff_inv h
 refine ⟨?_,fun S0 hg hx=>ext_set hg rfl hx⟩
 obtain ⟨dst,op,gd⟩:=o
 unfold isTk at ht
 split at ht
 ·rename_i l' i' p' x hd hg hop
  simp only at hop hg
  subst hop; subst hg
  simp only [Option.some.injEq,Prod.mk.injEq] at hd
  obtain ⟨rfl,rfl,rfl⟩:=hd
  split at ht<;>try (cases ht; done)
  rename_i l2 i2 p2 hx
  simp only [Bool.and_eq_true,Nat.beq_eq] at ht
  obtain ⟨⟨rfl,rfl⟩,rfl⟩:=ht
  simp only [seqOper,wanted,seqOp,hx,h1,Option.bind_some,h2,and_self,if_true,putsO]
 ·cases ht
theorem getBox_dead:∀ {T:St} {l i:Nat},getBox (setBox T l i dead) l i=none
 | [],_,_=>rfl
 | L::S,l,i=>by
  simp only [setBox]
  split
  ·rename_i hl
   simp only [getBox,hl,if_true,List.getElem?_set]
   split
   ·rfl
   ·rfl
  ·rename_i hl
   simp only [getBox,length_setBox,hl,if_false]
   exact getBox_dead
theorem gone_without {S:St}:∀ D,Gone D (without S D)
 | none=>fun _ _ _ h=>by cases h
 | some (l,i,k)=>fun l' i' k' h=>by
  simp only [Option.some.injEq,Prod.mk.injEq] at h
  obtain ⟨rfl,rfl,rfl⟩:=h
  exact getBox_dead
theorem tk_taken {D:Option (Nat×Nat×Option Nat)} {o:AOper} {S T T1:St} {ws:List (Nat×V)} (hT:T=S∨T=taken S D) (h:tkEff D o T=some (ws,T1)):T1=taken S D:=by
 obtain ⟨l,i,p,cs,e,xs,rfl,h1,h2,_,rfl⟩:=tkEff_inv h
 rcases hT with rfl | hT
 ·simp only [taken,h1,h2]
 ·subst hT
  cases hb:getBox S l i with
  | none =>
   have e0:taken S (some (l,i,some p))=S:=by simp only [taken,hb]
   rw [e0] at h1
   rw [hb] at h1; cases h1
  | some cs0 =>
   by_cases ho:∃ e0 xs0,cs0[p]?=some (.slice (.own e0) xs0)
   ·obtain ⟨e0,xs0,ho⟩:=ho
    have e1:taken S (some (l,i,some p))=setBox S l i (cs0.set p (.slice .shut xs0)):=by simp only [taken,hb,ho]
    rw [e1] at h1
    have h3:=getBox_on h1
    subst h3
    rw [List.getElem?_set_self (List.getElem?_eq_some_iff.1 ho).1] at h2
    cases h2
   ·have e1:taken S (some (l,i,some p))=S:=by
     simp only [taken,hb]
     split
     ·rename_i e0 xs0 h3; exact absurd ⟨e0,xs0,h3⟩ ho
     ·rfl
    rw [e1] at h1
    rw [hb] at h1
    cases h1
    exact absurd ⟨e,xs,h2⟩ ho
theorem clEff_seq {meth:Nat→String→Option Nat} {cE:CE} {C:Option (St×St)} {F:Fr} {o:AOper} {T:St} {ws:List (Nat×V)} (h:clEff cE C o F=some ws) (hT:∀ T0 T1,C=some (T0,T1)→T=T0∨T=T1) (hpos:∃ L R,T=L::R):seqOper meth cE o F T=some (.ok (puts ws F) T):=by
 obtain ⟨f,xs,T0,T1,v,hg,ho,hCe,hws,hv,hor⟩:=clEff_inv h
 obtain ⟨dst,op,gd⟩:=o
 simp only at hg ho
 subst hg; subst ho; subst hws
 simp only [seqOper,wanted,seqOp,putsO]
 rcases hor with ⟨hl,T',hc⟩ | ⟨hl,ht,hc0,hc1,e0,e1⟩
 ·rw [if_pos hl,hc]
  simp only [hv,if_true]
 ·rw [if_neg hl,if_pos ht]
  obtain ⟨L,R,rfl⟩:=hpos
  rcases hT _ _ hCe with rfl | rfl
  ·rw [hc0]
   obtain ⟨bs,lp⟩:=L
   simp only [eqS,Bool.and_eq_true] at e0
   cases lp with
   | none=>rfl
   | some l=>simp at e0
  ·rw [hc1]
   obtain ⟨bs,lp⟩:=L
   simp only [eqS,Bool.and_eq_true] at e1
   cases lp with
   | none=>rfl
   | some l=>simp at e1
theorem ext_without {S:St}:∀ D,Ext (without S D) S
 | none=>fun _ _ _ h=>h
 | some (l,i,k)=>fun _ _ _ h=>getBox_killed h
end AM
end Go.Proofs.Ytimfbnojmdnlnaa
end
section
namespace Go.Proofs.Ytimfbnojmdnlnaa
namespace AM
section
variable {P:Program} {T T':St} {g:Gh} {w:World} {nt:Nat} {F:Fr} {a:Act} {tk:Option Nat→Bool} {o:Oper} {cE:CE} {K:Act→World→Prop} {Q:Exit→Act→World→Prop} {ro:Option Nat} {r:OR}
theorem TmpAt.sameM {U:Use→Prop} {g':Gh} {w':World} {t:Nat} {v:V} {x:Value} (h:TmpAt P T g w t v x) (I:Inv P T g w) (S:Same U g w g' w') (hle:Le T.length g g') (hlen:T'.length=T.length) (hU:¬ U (.row (.tmp t))) (hUb:∀ l i, ¬ U (.box l i))
  (hm:∀ l i o e xs,v=.mir l i o e xs→(∃ cs,getBox T l i=some cs∧cs[o]?=some (.slice (.own e) xs))→∃ cs,getBox T' l i=some cs∧cs[o]?=some (.slice (.own e) xs)):TmpAt P T' g' w' t v x:={
 rel:=by rw [hlen]; exact rel_mono hle (Nat.le_refl _) v x h.rel
 own e xs hv:=(h.own e xs hv).same S hU
 fresh z hv:=by
  obtain ⟨b,ty,zs,hx,hu,hh,hi,hr,hg,ho⟩:=h.fresh z hv
  obtain ⟨e1,e2,e3⟩:=S.old b (Array.getElem?_eq_some_iff.1 hh).1 (by rw [hu]; exact hU)
  exact ⟨b,ty,zs,hx,e2.trans hu,e1.trans hh,hi,relL_mono (hle.less (Nat.zero_le _)) (Nat.le_refl _) z zs hr,fun o=>(e3 o).trans (hg o),ho⟩
 mir l i o e xs hv:=by
  obtain ⟨⟨cs,h1,h2⟩,h3⟩:=h.mir l i o e xs hv
  refine ⟨hm l i o e xs hv ⟨cs,h1,h2⟩,?_⟩
  obtain ⟨hu,vs,e',ex,hh,_,_,_,ha⟩:=I.B l i cs h1
  obtain ⟨e1,u1⟩:=hle.bx l i _ (getBox_lt h1) ha
  obtain ⟨k1,_,_⟩:=S.old (g.bx l i) (Array.getElem?_eq_some_iff.1 hh).1 (by rw [hu]; exact hUb l i)
  rw [e1,cell?_eq k1]; exact h3 }
theorem settle1_ok (I:Inv P T g w) (hF:FrRel P T g w nt F a.tmps) (hfl:Flat T) (o:AOper) :
  (∃ g',StepTo P T g w a nt (settle1 o F T).2 (settle1 o F T).1 g' w a)∧(∀ t,tame (F t)=true→tame ((settle1 o F T).1 t)=true)∧∀ t,o.dst=some t→tame ((settle1 o F T).1 t)=true:=by
 obtain ⟨bs,R,hT⟩:=hfl.pos
 unfold settle1
 cases hd:o.dst with
 | none=>exact ⟨⟨g,FrRel.eval hF hfl I⟩,fun t h=>h,fun t h=>by cases h⟩
 | some d =>
  simp only
  cases hFd:F d
  case fresh z =>
   simp only
   have hdn:d < a.tmps.size:=Nat.lt_of_not_le fun h=>by
    rw [hF.past d (by rw [← hF.size]; exact h)] at hFd; cases hFd
   have hx:=Array.getElem?_eq_getElem hdn
   have htm:=hF.tmp d _ hx
   obtain ⟨b,ty,zs,hxe,hu,hh,hi,hr,hg,ho⟩:=htm.fresh z hFd
   subst hT
   simp only
   obtain ⟨hle,hsame,hinv⟩:=inv_box (so:=some d) I rfl (b:=b) (e:=ty) (z:=z) (vs:=zs) (w':=w) hh (fun o v h=>by rw [hg o] at h; cases h) (.inr ⟨d,rfl,hu⟩) hi (relL_mono (Le.refl 0 g) (Nat.zero_le _) _ _ hr) ho rfl rfl rfl (Nat.le_refl _) (fun _ _=>rfl)
   refine ⟨⟨_,hle,hsame.frm ofTmp_free,hinv,⟨hF.size,fun t ht=>?_,fun t y hy=>?_⟩,rfl,trivial,rfl,fun k hk hku=>?_⟩,fun t ht=>?_,fun t ht=>?_⟩
   ·have:t≠d:=by
     have:=hF.size
     omega
    rw [put_ne _ _ this]; exact hF.past t ht
   ·by_cases e:t=d
    ·subst e
     rw [put_same]
     refine TmpAt.calm rfl ?_
     rw [hx] at hy; injection hy with hy; subst hy
     simp only [Rel]
     exact ⟨by simp,⟨_,by simp [Gh.boxed]; rfl⟩,by rw [hxe]; simp [Gh.boxed]⟩
    ·rw [put_ne _ _ e]
     refine (hF.tmp t y hy).sameM I hsame hle rfl (by rintro ⟨s,h1,h2⟩; cases h2; cases h1; exact e rfl) (fun _ _=>ofTmp_box) (fun l i o e xs _ h=>?_)
     obtain ⟨cs,h1,h2⟩:=h
     refine ⟨cs,?_,h2⟩
     have hp:=getBox_push ⟨bs,none⟩ R z hi l i
     simp only at hp
     rw [hp,if_neg]
     ·exact h1
     ·rintro ⟨rfl,rfl⟩
      rw [getBox_top] at h1
      simp [dz] at h1
   ·obtain ⟨h1,h2,_⟩:=hsame.old k hk (by rw [hku]; exact ofTmp_mark)
    exact ⟨h2.trans hku,h1⟩
   ·simp only [put]
    split
    ·rfl
    ·exact ht
   ·injection ht with ht; subst ht
    rw [put_same]; rfl
  case mir l i p e xs =>
   simp only
   have hdn:d < a.tmps.size:=Nat.lt_of_not_le fun h=>by
    rw [hF.past d (by rw [← hF.size]; exact h)] at hFd; cases hFd
   have hx:=Array.getElem?_eq_getElem hdn
   obtain ⟨⟨cs,hcs,hown⟩,hcell⟩:=(hF.tmp d _ hx).mir l i p e xs hFd
   rw [hcs]
   simp only
   obtain ⟨y,g',h1,h2,h3,h4,h5,h6⟩:=inv_take I hfl hcs hown (some d)
   have hy:a.tmps[d]=y:=by rw [hcell] at h1; injection h1
   refine ⟨⟨g',h3 _,h4.frm (by simp),h5,⟨hF.size,fun t ht=>?_,fun t z hz=>?_⟩,length_setBox _ _ _ _,hfl.setBox _ _ _,rfl,fun k hk hku=>?_⟩,fun t ht=>?_,fun t ht=>?_⟩
   ·have:t≠d:=by
     have:=hF.size
     omega
    rw [put_ne _ _ this,hF.past t ht]; rfl
   ·by_cases e':t=d
    ·subst e'
     rw [put_same]
     rw [hx] at hz; injection hz with hz; subst hz
     refine ⟨?_,fun e'' xs' hv=>?_,fun z hv=>(by cases hv),fun l i o e xs hv=>(by cases hv)⟩
     ·rw [length_setBox,hy]; exact rel_mono (h3 _) (Nat.le_refl _) _ _ h2
     ·simp only [V.slice.injEq,SK.own.injEq] at hv
      obtain ⟨rfl,rfl⟩:=hv
      rw [hy]
      exact h6 t rfl
    ·rw [put_ne _ _ e']
     have htm:=hF.tmp t z hz
     by_cases hmm:∃ e2 xs2,F t=.mir l i p e2 xs2
     ·obtain ⟨e2,xs2,hFt⟩:=hmm
      have hr:=htm.rel
      rw [hFt] at hr ⊢
      simp only [unmir,and_self,if_true]
      refine TmpAt.calm rfl ?_
      rw [length_setBox]
      refine rel_mono (h3 _) (Nat.le_refl _) _ _ ?_
      simp only [Rel] at hr ⊢
      obtain ⟨ad,m,c,k1,k2,k3,k4,k5,k6,k7⟩:=hr
      exact ⟨ad,m,c,k1,k2,k3,k4,k5,k6,k7⟩
     ·have hun:unmir l i p (F t)=F t:=by
       cases hFt:F t with
       | mir l' i' p' e2 xs2 =>
        simp only [unmir]
        rw [if_neg]
        rintro ⟨rfl,rfl,rfl⟩
        exact hmm ⟨e2,xs2,hFt⟩
       | _=>rfl
      rw [hun]
      refine htm.sameM I h4 (h3 _) (length_setBox _ _ _ _) (by simp) (by simp) (fun l' i' p' e2 xs2 hFt h=>?_)
      obtain ⟨cs',k1,k2⟩:=h
      rw [getBox_setBox hcs (isCells_set (I.B _ _ _ hcs).cells rfl)]
      split
      ·rename_i hli
       obtain ⟨rfl,rfl⟩:=hli
       rw [hcs] at k1; injection k1 with k1; subst k1
       refine ⟨_,rfl,?_⟩
       rw [lt_set,if_neg]
       ·exact k2
       ·rintro rfl
        exact hmm ⟨e2,xs2,hFt⟩
      ·exact ⟨cs',k1,k2⟩
   ·obtain ⟨k1,k2,_⟩:=h4.old k hk (by rw [hku]; simp)
    exact ⟨k2.trans hku,k1⟩
   ·simp only [put]
    split
    ·rfl
    ·cases hFt:F t<;>rw [hFt] at ht<;>simp only [unmir]<;>first | exact ht | cases ht
   ·injection ht with ht; subst ht
    rw [put_same]; rfl
  all_goals exact ⟨⟨g,FrRel.eval hF hfl I⟩,fun t h=>h,fun t h=>by injection h with h; subst h; simp only [hFd]; rfl⟩
theorem settle_ok:∀ {os:List AOper} {T:St} {g:Gh} {F:Fr},Inv P T g w→FrRel P T g w nt F a.tmps→Flat T→(∀ t,tame (F t)=true∨t∈dsts os) →
  ∃ g',StepTo P T g w a nt (settle os F T).2 (settle os F T).1 g' w a∧∀ t,tame ((settle os F T).1 t)=true
 | [],T,g,F,I,hF,hfl,ht=>⟨g,FrRel.eval hF hfl I,fun t=>(ht t).resolve_right (by simp [dsts])⟩
 | o::os,T,g,F,I,hF,hfl,ht=>by
  obtain ⟨⟨g1,h1⟩,h2,h3⟩:=settle1_ok I hF hfl o
  obtain ⟨g2,h4,h5⟩:=settle_ok (os:=os) h1.inv h1.fr h1.flat (fun t=>by
   rcases ht t with h | h
   ·exact .inl (h2 t h)
   ·simp only [dsts,List.filterMap_cons] at h
    cases hd:o.dst with
    | none=>rw [hd] at h; exact .inr h
    | some d =>
     rw [hd] at h
     rcases List.mem_cons.1 h with rfl | h
     ·exact .inl (h3 t hd)
     ·exact .inr h)
  exact ⟨g2,h1.trans h4,h5⟩
end
end AM
end Go.Proofs.Ytimfbnojmdnlnaa
end
section
namespace Go.Proofs.Ytimfbnojmdnlnaa
namespace AM
section
variable {P:Program} {T T':St} {g:Gh} {w:World} {nt:Nat} {F:Fr} {a:Act} {tk:Option Nat→Bool} {o:Oper} {cE:CE} {Q:Exit→Act→World→Prop} {ro:Option Nat}
structure GoesC (P:Program) (T:St) (g:Gh) (w:World) (nt:Nat) (a:Act) (Q:Exit→Act→World→Prop) (res:Ex×Fr×St):Prop where
 nrm:∀ F' T',res=(.nrm,F',T')→∀ g' w' a',StepTo P T g w a nt T' F' g' w' a'→(∀ t,tame (F' t)=true)→Q .normal a' w'
 pan:∀ v F' T',res=(.pan v,F',T')→∀ g' w' x a',a'.defers=a.defers→PanTo P T g w nt v F' T' g' w' x a'→Q (.panic [{ v:=x,recovered:=false }]) a' w'
theorem PanTo.after {T1 T2:St} {g1 g2:Gh} {w1 w2:World} {a1 a2:Act} {F1 F2:Fr} {v:V} {x:Value} (h:StepTo P T g w a nt T1 F1 g1 w1 a1) (k:PanTo P T1 g1 w1 nt v F2 T2 g2 w2 x a2):PanTo P T g w nt v F2 T2 g2 w2 x a2:={
 fr:=k.fr
 le:=h.le.trans (by have:=k.le; rwa [h.len] at this)
 frm:=h.frm.trans k.frm
 inv:=k.inv
 len:=k.len.trans h.len
 marks b hb hu:=by
  obtain ⟨u1,e1⟩:=h.marks b hb hu
  obtain ⟨u2,e2⟩:=k.marks b (Nat.lt_of_lt_of_le hb h.frm.size) u1
  exact ⟨u2,e2.trans e1⟩
 rel:=k.rel }
theorem GoesC.step {T1:St} {F1:Fr} {g1:Gh} {w1:World} {a1:Act} {res:Ex×Fr×St} (h:StepTo P T g w a nt T1 F1 g1 w1 a1) (k:GoesC P T g w nt a Q res):GoesC P T1 g1 w1 nt a1 Q res:={
 nrm F' T' e g' w' a' hs ht:=k.nrm F' T' e g' w' a' (h.trans hs) ht
 pan v F' T' e g' w' x a' hd hp:=k.pan v F' T' e g' w' x a' (hd.trans h.defs) (hp.after h) }
theorem opIn_seq {meth:Nat→String→Option Nat} (hM:MethOk P meth) (hE:CallOk P cE) (I:Inv P T g w) (hF:FrRel P T g w nt F a.tmps) (ht:∀ t,tame (F t)=true) (hfl:Flat T) {ops:Array Oper} {i:Nat} (hi:ops[i]?=some o) {ao:AOper} (hc:compOper P nt tk ops.toList o=some ao)
  {r:OR} (hv:seqOper meth cE ao F T=some r) {K:Act→World→Prop} (hG:Goes P T g w nt F a K Q r):wpOpIn (fen ro) 0 P ops Q i K a w:=by
 unfold wpOpIn
 simp only [hi]
 exact seqOper_ok hM hE I hF ht hfl hc hv hG
theorem opIn_free (hE:CallOk P cE) (I:Inv P T g w) (hF:FrRel P T g w nt F a.tmps) (hfl:Flat T) {ops:Array Oper} {i:Nat} (hi:ops[i]?=some o) {ao:AOper} (hc:compOper P nt tk ops.toList o=some ao) {F':Fr} (hv:freeOper cE ao F T=some F') {K:Act→World→Prop} (hK:On P T g w a nt F' K) :
  wpOpIn (fen ro) 0 P ops Q i K a w:=by
 unfold wpOpIn
 simp only [hi]
 exact freeOper_ok hE I hF hfl hc hv hK
def OpsOk (P:Program) (nt:Nat) (tk:Option Nat→Bool) (ops:Array Oper) (os:List AOper):Prop :=
 os.length=ops.size∧∀ (i:Nat) (o:Oper),ops[i]?=some o→∃ ao,os[i]?=some ao∧compOper P nt tk ops.toList o=some ao
theorem region_seq {meth:Nat→String→Option Nat} (hM:MethOk P meth) (hE:CallOk P cE) {ops:Array Oper} {os:List AOper} (hops:OpsOk P nt tk ops os):∀ (n p:Nat) {T:St} {g:Gh} {w:World} {F:Fr} {a:Act} {res:Ex×Fr×St},p+n=os.length →
  Inv P T g w→FrRel P T g w nt F a.tmps→(∀ t,tame (F t)=true)→Flat T→blks meth cE ((os.drop p).map .seq) F T=some res→GoesC P T g w nt a Q res→wpOpsIn (fen ro) 0 P ops Q (List.range' p n) a w
 | 0,p,T,g,w,F,a,res,hp,I,hF,ht,hfl,hv,hG=>by
  rw [List.drop_eq_nil_of_le (by omega)] at hv
  simp [blks] at hv
  subst hv
  exact hG.nrm _ _ rfl _ _ _ (FrRel.eval hF hfl I) ht
 | n+1,p,T,g,w,F,a,res,hp,I,hF,ht,hfl,hv,hG=>by
  have hlt:p < os.length:=by omega
  have hlt':p < ops.size:=by rw [← hops.1]; exact hlt
  obtain ⟨ao,h1,h2⟩:=hops.2 p ops[p] (Array.getElem?_eq_getElem hlt')
  have hd:os.drop p=ao::os.drop (p+1):=by
   rw [List.drop_eq_getElem_cons hlt]
   rw [List.getElem?_eq_getElem hlt] at h1
   injection h1 with h1
   rw [h1]
  rw [hd] at hv
  simp only [List.map_cons,blks] at hv
  rw [List.range'_succ,wpOpsIn_cons]
  split at hv
  ·rename_i F1 T1 hs
   refine opIn_seq hM hE I hF ht hfl (Array.getElem?_eq_getElem hlt') h2 hs ⟨fun F' T' e g' w' a' hst htt=>?_,fun v T' e=>by cases e⟩
   cases e
   exact region_seq hM hE hops n (p+1) (by omega) hst.inv hst.fr htt hst.flat hv (hG.step hst)
  ·rename_i v T1 hs
   injection hv with hv; subst hv
   refine opIn_seq hM hE I hF ht hfl (Array.getElem?_eq_getElem hlt') h2 hs ⟨fun F' T' e=>(by cases e),fun v' T' e g' w' x hpn=>?_⟩
   cases e
   exact hG.pan _ _ _ rfl g' w' x a rfl hpn
  ·cases hv
theorem fold_bit {acc:List Nat} {k:Nat}:∀ {l:List Edge} {s:Nat},(l.foldl (fun s e=>if Region.binds .any e then s ||| 2 ^ e.on ||| acc.getD e.on 0 else s) s).testBit k=true →
  s.testBit k=true∨∃ e∈l,Region.binds .any e=true∧(k=e.on∨(acc.getD e.on 0).testBit k=true)
 | [],s,h=>.inl h
 | e::l,s,h=>by
  simp only [List.foldl_cons] at h
  rcases fold_bit h with h | ⟨e',he',h1,h2⟩
  ·split at h
   ·rename_i hb
    simp only [Nat.testBit_or,Bool.or_eq_true] at h
    rcases h with (h | h) | h
    ·exact .inl h
    ·rw [Nat.testBit_two_pow] at h
     exact .inr ⟨e,List.mem_cons_self,hb, .inl (of_decide_eq_true h).symm⟩
    ·exact .inr ⟨e,List.mem_cons_self,hb, .inr h⟩
   ·exact .inl h
  ·exact .inr ⟨e',List.mem_cons_of_mem _ he',h1,h2⟩
theorem ancs_spec:∀ (os:List Oper) (acc:List Nat),(ancs os acc).length=acc.length+os.length∧(∀ j,j < acc.length→(ancs os acc).getD j 0=acc.getD j 0) ∧
  ∀ (j:Nat) (o:Oper),os[j]?=some o→∀ k,((ancs os acc).getD (acc.length+j) 0).testBit k=true→∃ e∈o.after.toList,Region.binds .any e=true∧(k=e.on∨((ancs os acc).getD e.on 0).testBit k=true)
 | [],acc=>⟨by simp [ancs],fun _ _=>rfl,fun j o h=>by simp at h⟩
 | o::os,acc=>by
  simp only [ancs]
  obtain ⟨h1,h2,h3⟩:=ancs_spec os (acc++[o.after.toList.foldl (fun s e=>if Region.binds .any e then s ||| 2 ^ e.on ||| acc.getD e.on 0 else s) 0])
  refine ⟨by rw [h1]; simp; omega,fun j hj=>?_,fun j o' ho k hk=>?_⟩
  ·rw [h2 j (by simp; omega)]
   simp [List.getD_eq_getElem?_getD,List.getElem?_append_left hj]
  ·cases j with
   | zero =>
    simp only [List.getElem?_cons_zero,Option.some.injEq] at ho
    subst ho
    rw [Nat.add_zero,h2 _ (by simp)] at hk
    simp only [List.getD_eq_getElem?_getD,List.getElem?_append_right (Nat.le_refl _),Nat.sub_self,List.getElem?_cons_zero,Option.getD_some] at hk
    rcases fold_bit (acc:=acc) (by simpa only [List.getD_eq_getElem?_getD] using hk) with h | ⟨e,he,hb,h⟩
    ·simp at h
    ·refine ⟨e,he,hb,h.imp id fun h=>?_⟩
     have hlt:e.on < acc.length:=Nat.lt_of_not_le fun hle=>by
      rw [List.getD_eq_getElem?_getD,List.getElem?_eq_none hle] at h
      simp at h
     rw [h2 _ (by simp; omega)]
     simpa [List.getD_eq_getElem?_getD,List.getElem?_append_left hlt] using h
   | succ j =>
    have:=h3 j o' (by simpa using ho) k (by
     have e:acc.length+(j+1)=(acc++[o.after.toList.foldl (fun s e=>if Region.binds .any e then s ||| 2 ^ e.on ||| acc.getD e.on 0 else s) 0]).length+j:=by simp; omega
     rw [← e]; exact hk)
    exact this
end
end AM
end Go.Proofs.Ytimfbnojmdnlnaa
end
section
namespace Go.Proofs.Ytimfbnojmdnlnaa
namespace AM
structure Lst (n:Nat) (an:List Nat) (listed:Array Bool) (p:Nat) (rem:List Nat):Prop where
 size:listed.size=n
 iff:∀ j,listed.getD j false=true ↔ j < p∧j ∉ rem
 le:p≤n
 mem:∀ j∈rem,j < p
 sorted:rem.Pairwise (· < ·)
 clos:∀ i k,listed.getD i false=true→(an.getD i 0).testBit k=true→listed.getD k false=true
theorem getD_set {listed:Array Bool} {i j:Nat} (hi:i < listed.size):(listed.setIfInBounds i true).getD j false=true ↔ i=j∨listed.getD j false=true:=by
 simp only [Array.getD_eq_getD_getElem?,Array.getElem?_setIfInBounds]
 by_cases h:i=j
 ·subst h; simp [hi]
 ·simp [h]
theorem getD_tf {listed:Array Bool} {j:Nat}:listed.getD j true=false ↔ j < listed.size∧listed.getD j false=false:=by
 simp only [Array.getD_eq_getD_getElem?]
 by_cases h:j < listed.size
 ·rw [Array.getElem?_eq_getElem h]; simp [h]
 ·rw [Array.getElem?_eq_none (by omega)]; simp [h]
section
variable {ops:Array Oper} {os:List AOper} {listed:Array Bool} {p:Nat} {rem:List Nat} {md:Region.Mode}
theorem ready_anc {n:Nat} (L:Lst n (ancs ops.toList []) listed p rem) {i:Nat} (hi:i∈Region.ready .any ops listed):∀ k,((ancs ops.toList []).getD i 0).testBit k=true→listed.getD k false=true:=by
 intro k hk
 obtain ⟨_,o,ho,hall⟩:=mem_ready.1 hi
 obtain ⟨_,_,h3⟩:=ancs_spec ops.toList []
 obtain ⟨e,he,hb,h⟩:=h3 i o (by simpa using ho) k (by simpa using hk)
 have h1:=hall e (by simpa using he) hb
 rcases h with rfl | h
 ·exact h1
 ·exact L.clos _ _ h1 h
theorem Lst.step {n:Nat} {pre post:List Nat} {i:Nat} (L:Lst n (ancs ops.toList []) listed p (pre++i::post)) (hi:i∈Region.ready .any ops listed):Lst n (ancs ops.toList []) (listed.setIfInBounds i true) p (pre++post):={
 size:=by rw [Array.size_setIfInBounds]; exact L.size
 iff j:=by
  have hlt:i < listed.size:=by rw [L.size]; exact Nat.lt_of_lt_of_le (L.mem i (by simp)) L.le
  rw [getD_set hlt,L.iff]
  have hs:=L.sorted
  rw [List.pairwise_append,List.pairwise_cons] at hs
  constructor
  ·rintro (rfl | ⟨h1,h2⟩)
   ·refine ⟨L.mem _ (by simp),fun h=>?_⟩
    rcases List.mem_append.1 h with h | h
    ·exact absurd (hs.2.2 i h i List.mem_cons_self) (Nat.lt_irrefl _)
    ·exact absurd (hs.2.1.1 i h) (Nat.lt_irrefl _)
   ·exact ⟨h1,fun h=>h2 (by rcases List.mem_append.1 h with h | h<;>simp [h])⟩
  ·rintro ⟨h1,h2⟩
   by_cases hij:i=j
   ·exact .inl hij
   ·exact .inr ⟨h1,fun h=>h2 (by
     rcases List.mem_append.1 h with h | h
     ·exact List.mem_append_left _ h
     ·rcases List.mem_cons.1 h with h | h
      ·exact absurd h.symm hij
      ·exact List.mem_append_right _ h)⟩
 le:=L.le
 mem j hj:=L.mem j (by rcases List.mem_append.1 hj with h | h<;>simp [h])
 sorted:=by
  have hs:=L.sorted
  rw [List.pairwise_append,List.pairwise_cons] at hs
  rw [List.pairwise_append]
  exact ⟨hs.1,hs.2.1.2,fun x hx y hy=>hs.2.2 x hx y (List.mem_cons_of_mem _ hy)⟩
 clos j k hj hk:=by
  have hlt:i < listed.size:=by rw [L.size]; exact Nat.lt_of_lt_of_le (L.mem i (by simp)) L.le
  rw [getD_set hlt] at hj ⊢
  rcases hj with rfl | hj
  ·exact .inr (ready_anc L hi k hk)
  ·exact .inr (L.clos _ _ hj hk) }
theorem back_spec (hback:backOk ops.toList=true) {j:Nat} {o:Oper} (ho:ops[j]?=some o):∀ e∈o.after,Region.binds .any e=true→e.on < j:=by
 intro e he hb
 have hj:j < ops.toList.length:=by have:=(Array.getElem?_eq_some_iff.1 ho).1; simpa using this
 have h1:=List.all_eq_true.1 hback j (List.mem_range.2 hj)
 have ho':ops.toList[j]?=some o:=by simpa using ho
 rw [ho'] at h1
 have h2:=List.all_eq_true.1 h1 e (by simpa using he)
 simpa [hb] using h2
theorem ready_first {n:Nat} (hn:n=ops.size) (hback:backOk ops.toList=true) {i:Nat} {post:List Nat} (L:Lst n (ancs ops.toList []) listed p (i::post)):i∈Region.ready .any ops listed:=by
 have hi:=L.mem i List.mem_cons_self
 have hlt:i < ops.size:=by rw [← hn]; exact Nat.lt_of_lt_of_le hi L.le
 have hun:¬ listed.getD i false=true:=fun h=>((L.iff i).1 h).2 List.mem_cons_self
 refine mem_ready.2 ⟨getD_tf.2 ⟨by rw [L.size,hn]; exact hlt,by simpa using hun⟩,ops[i],Array.getElem?_eq_getElem hlt,fun e he hb=>?_⟩
 have h1:=back_spec hback (Array.getElem?_eq_getElem hlt) e he hb
 refine (L.iff _).2 ⟨by omega,fun h=>?_⟩
 have hs:=L.sorted
 rw [List.pairwise_cons] at hs
 rcases List.mem_cons.1 h with h | h
 ·omega
 ·have:=hs.1 _ h; omega
theorem ready_mem {n:Nat} (hn:n=ops.size) (hcut:p < n→cutAt (ancs ops.toList []) p=true) {i:Nat} (hi:i∈Region.ready .any ops listed) (hne:rem≠[]) (L:Lst n (ancs ops.toList []) listed p rem):i∈rem:=by
 obtain ⟨h1,o,ho,_⟩:=mem_ready.1 hi
 have hlt:=(Array.getElem?_eq_some_iff.1 ho).1
 have hun:listed.getD i false=false:=(getD_tf.1 h1).2
 rcases Nat.lt_or_ge i p with hp | hp
 ·refine Classical.byContradiction fun h=>?_
  have:=(L.iff i).2 ⟨hp,h⟩
  rw [hun] at this; cases this
 ·exfalso
  have hpn:p < n:=by omega
  have hc:=hcut hpn
  obtain ⟨k,hk⟩:=List.exists_mem_of_ne_nil _ hne
  have hal:=(ancs_spec ops.toList []).1
  have h2:=List.all_eq_true.1 hc i (List.mem_range.2 (by rw [hal]; simpa using hlt))
  simp only [Bool.or_eq_true,decide_eq_true_eq] at h2
  rcases h2 with h2 | h2
  ·omega
  ·have h3:=List.all_eq_true.1 h2 k (List.mem_range.2 (L.mem k hk))
   have h4:=ready_anc L hi k h3
   exact ((L.iff k).1 h4).2 hk
theorem apart_spec {an:List Nat} (hap:apartOk an os=true) {i j:Nat} {o q:AOper} (hj:os[j]?=some o) (hi:os[i]?=some q) (hij:i < j) (hb:¬ (an.getD j 0).testBit i=true):apart o q=true:=by
 have h1:=List.all_eq_true.1 hap j (List.mem_range.2 (List.getElem?_eq_some_iff.1 hj).1)
 have h2:=List.all_eq_true.1 h1 i (List.mem_range.2 hij)
 rw [hj,hi] at h2
 rcases Bool.or_eq_true _ _ |>.mp h2 with h3 | h3
 ·exact absurd h3 hb
 ·exact h3
end
section
variable {P:Program} {T:St} {nt:Nat} {tk:Option Nat→Bool} {cE:CE} {Q:Exit→Act→World→Prop} {ro:Option Nat} {ops:Array Oper} {os:List AOper}
theorem free_block (hE:CallOk P cE) (hops:OpsOk P nt tk ops os) (hback:backOk ops.toList=true) (hap:apartOk (ancs ops.toList []) os=true) {p fuel:Nat} {F1:Fr} (hcut:p < ops.size→cutAt (ancs ops.toList []) p=true) :
  ∀ (m:Nat) {rem:List Nat} {listed:Array Bool} {g:Gh} {w:World} {F:Fr} {a:Act},rem.length=m→Lst ops.size (ancs ops.toList []) listed p rem→Inv P T g w→FrRel P T g w nt F a.tmps→Flat T→freeL cE T (rem.filterMap fun k=>os[k]?) F=some F1 →
   (∀ listed' g' w' a',Lst ops.size (ancs ops.toList []) listed' p []→StepTo P T g w a nt T F1 g' w' a'→wpAnyIn (fen ro) 0 P .any ops Q fuel listed' a' w')→wpAnyIn (fen ro) 0 P .any ops Q (m+fuel) listed a w
 | 0,rem,listed,g,w,F,a,hm,L,I,hF,hfl,hv,hK=>by
  have:rem=[]:=List.eq_nil_of_length_eq_zero hm
  subst this
  simp [freeL] at hv
  subst hv
  rw [Nat.zero_add]
  exact hK _ _ _ _ L (FrRel.eval hF hfl I)
 | m+1,rem,listed,g,w,F,a,hm,L,I,hF,hfl,hv,hK=>by
  have hne:rem≠[]:=by intro h; rw [h] at hm; simp at hm
  rw [show m+1+fuel=(m+fuel)+1 from by omega]
  refine ⟨fun h=>?_,fun i hi=>?_⟩
  ·cases rem with
   | nil=>exact absurd rfl hne
   | cons i post =>
    have:=ready_first rfl hback L
    rw [h] at this; cases this
  ·have hmem:=ready_mem rfl hcut hi hne L
   obtain ⟨pre,post,rfl⟩:=List.append_of_mem hmem
   have hlt:i < ops.size:=Nat.lt_of_lt_of_le (L.mem i (by simp)) L.le
   obtain ⟨ao,h1,h2⟩:=hops.2 i ops[i] (Array.getElem?_eq_getElem hlt)
   rw [List.filterMap_append,List.filterMap_cons_some h1] at hv
   have hs:=L.sorted
   rw [List.pairwise_append] at hs
   obtain ⟨F2,h3,h4⟩:=freeL_first (fun q hq=>by
    obtain ⟨k,hk,hkq⟩:=List.mem_filterMap.1 hq
    refine apart_spec hap h1 hkq (hs.2.2 k hk i List.mem_cons_self) fun hb=>?_
    have:=ready_anc L hi k hb
    exact ((L.iff k).1 this).2 (List.mem_append_left _ hk)) hv
   rw [← List.filterMap_append] at h4
   refine opIn_free hE I hF hfl (Array.getElem?_eq_getElem hlt) h2 h3 fun g' w' a' hst=>?_
   exact free_block hE hops hback hap hcut m (by simp at hm ⊢; omega) (L.step hi) hst.inv hst.fr hst.flat h4 fun listed' g'' w'' a'' L' hst'=>hK listed' g'' w'' a'' L' (hst.trans hst')
theorem flat_back {T:St} {l i:Nat} {cs:List V} (h:Flat (setBox T l i cs)):Flat T:=by
 cases T with
 | nil=>exact h
 | cons L S =>
  simp only [setBox] at h
  obtain ⟨bs,lp⟩:=L
  split at h<;>(cases lp<;>exact h)
theorem call_step (hE:CallOk P cE) {T1:St} {g:Gh} {w:World} {F:Fr} {a:Act} {o:Oper} (I:Inv P T g w) (hF:FrRel P T g w nt F a.tmps) (hfl1:Flat T1) (hfree:ownFree T=true) {i:Nat} (hi:ops[i]?=some o) {ao:AOper} (hc:compOper P nt tk ops.toList o=some ao) {f:Nat} {xs:List Opd}
  (hop':ao.op=.call f xs) (hg':ao.gd=none) {A:List V} {v:V} (hA:(xs.map fun x=>strip (evO F x))=A) (htm:tames A=true) (hcc:cE (.fn f) A T=some (.ret v,T1)) {K:Act→World→Prop} (hK:∀ g' w' a',StepTo P T g w a nt T1 (putO F ao.dst v) g' w' a'→K a' w'):wpOpIn (fen ro) 0 P ops Q i K a w:=by
 unfold wpOpIn
 simp only [hi]
 unfold compOper at hc
 split at hc<;>try (cases hc; done)
 rename_i hd
 simp only [Option.bind_eq_some_iff,Option.map_eq_some_iff] at hc
 obtain ⟨op0,hop,gd,hgd,rfl⟩:=hc
 simp only at hop' hg' hK
 generalize hrt:retag P tk o op0=op at hop'
 have heq:op=op0:=by
  rcases retag_inv hrt with h | ⟨f,xs,_,h | ⟨e,m,_,h⟩⟩ | ⟨e,n,b,x,y,_,h | ⟨lv,h⟩⟩ | ⟨e,n,ps,_,h⟩
  ·exact h
  all_goals (subst h; cases hop')
 subst heq
 subst hop'
 have hw:wanted F gd=some true:=by rw [hg']; rfl
 rw [if_pos (wanted_ok hF hgd hw)]
 have hnd:=compOp_defer hop
 have hi2:=compOp_inv hop
 cases hi2 with
 | val _ h=>cases h
 | call _ args ts _ he hXs =>
  have hargs:=rel_args hF hXs
  have hmm:(xs.map fun x=>strip (evO F x))=(xs.map (evO F)).map strip:=by simp
  subst hA
  rw [hmm] at hcc htm hargs
  have hm:∀ t y,a.tmps[t]?=some y→∀ l i o e xs,F t≠.mir l i o e xs:=fun t y hy l i o e xs hv=>by
   obtain ⟨⟨cs,hc1,hc2⟩,_⟩:=(hF.tmp t y hy).mir l i o e xs hv
   exact ownFree_get hfree hc1 hc2
  obtain ⟨k1,k2⟩:=hE (.fn f) _ T (.ret v) T1 hcc (g.drop T.length) w _ (inv_drop I) (clean_drop _) (relL_mono le_drop (Nat.le_succ _) _ _ hargs) (calm_args' htm)
  have hrun:=run_call_func (a:=a) (cs:=[]) (w:=w) he rfl k1
  rw [List.append_nil] at hrun
  refine wpIn_of_run hnd hrun (upon_enter k2 (fun x w' h=>?_) (fun ch w' h=>?_) (fun w'=>outPost_out))
  ·obtain ⟨g1,y,hy,hdn,I1,hlen,hr,htv,ho⟩:=h
   injection hy with hy; subst hy
   obtain ⟨g',hg''⟩:=step_call I hF hm hd hdn I1 hlen hfl1 hr htv ho
   exact hK _ _ _ hg''
  ·obtain ⟨g1,y,hy,_⟩:=h; cases hy
theorem fre_block (hE:CallOk P cE) (hops:OpsOk P nt tk ops os) (hback:backOk ops.toList=true) (hap:apartOk (ancs ops.toList []) os=true) {p fuel c:Nat} {F1:Fr} (hcut:p < ops.size→cutAt (ancs ops.toList []) p=true)
  {T1:St} {l b f:Nat} {A:List V} {v:V} {xs:List Opd} {co:AOper} (hco:os[c]?=some co) (hcop:co.op=.call f xs) (hcg:co.gd=none) (htm:tames A=true) (hcc:cE (.fn f) A T=some (.ret v,T1)) (hfree:ownFree T=true) (hfl1:Flat T1) (hS:setBox T l b dead=setBox T1 l b dead) :
  ∀ (m:Nat) {rem:List Nat} {listed:Array Bool} {g:Gh} {w:World} {F:Fr} {a:Act},rem.length=m→c∈rem→(∀ k∈rem,k≠c→∀ q,os[k]?=some q→isCall q=false)→Lst ops.size (ancs ops.toList []) listed p rem→Inv P T g w→FrRel P T g w nt F a.tmps→Flat T→freeL (cEv f A v) (setBox T l b dead) (rem.filterMap fun k=>os[k]?) F=some F1 →
   (∀ listed' g' w' a',Lst ops.size (ancs ops.toList []) listed' p []→StepTo P T g w a nt T1 F1 g' w' a'→wpAnyIn (fen ro) 0 P .any ops Q fuel listed' a' w')→wpAnyIn (fen ro) 0 P .any ops Q (m+fuel) listed a w
 | 0,rem,listed,g,w,F,a,hm,hcm,hn,L,I,hF,hfl,hv,hK=>by
  have:rem=[]:=List.eq_nil_of_length_eq_zero hm
  subst this
  cases hcm
 | m+1,rem,listed,g,w,F,a,hm,hcm,hn,L,I,hF,hfl,hv,hK=>by
  have hne:rem≠[]:=by intro h; rw [h] at hm; simp at hm
  rw [show m+1+fuel=(m+fuel)+1 from by omega]
  refine ⟨fun h=>?_,fun i hi=>?_⟩
  ·cases rem with
   | nil=>exact absurd rfl hne
   | cons i post =>
    have:=ready_first rfl hback L
    rw [h] at this; cases this
  ·have hmem:=ready_mem rfl hcut hi hne L
   obtain ⟨pre,post,rfl⟩:=List.append_of_mem hmem
   have hlt:i < ops.size:=Nat.lt_of_lt_of_le (L.mem i (by simp)) L.le
   obtain ⟨ao,h1,h2⟩:=hops.2 i ops[i] (Array.getElem?_eq_getElem hlt)
   rw [List.filterMap_append,List.filterMap_cons_some h1] at hv
   have hs:=L.sorted
   rw [List.pairwise_append] at hs
   obtain ⟨F2,h3,h4⟩:=freeL_first (fun q hq=>by
    obtain ⟨k,hk,hkq⟩:=List.mem_filterMap.1 hq
    refine apart_spec hap h1 hkq (hs.2.2 k hk i List.mem_cons_self) fun hb=>?_
    have:=ready_anc L hi k hb
    exact ((L.iff k).1 this).2 (List.mem_append_left _ hk)) hv
   rw [← List.filterMap_append] at h4
   by_cases hic:i=c
   ·subst hic
    rw [h1] at hco; injection hco with hco; subst hco
    obtain ⟨hA,rfl⟩:=freeOper_call hcop hcg h3
    have hnot:i ∉ pre++post:=fun h=>by
     rw [List.pairwise_cons] at hs
     rcases List.mem_append.1 h with h | h
     ·exact absurd (hs.2.2 i h i List.mem_cons_self) (Nat.lt_irrefl _)
     ·exact absurd (hs.2.1.1 i h) (Nat.lt_irrefl _)
    have h5:freeL cE T1 ((pre++post).filterMap fun k=>os[k]?) (putO F ao.dst v)=some F1:=by
     rw [hS] at h4
     refine freeL_kill (fun q hq=>?_) h4
     obtain ⟨k,hk,hkq⟩:=List.mem_filterMap.1 hq
     refine hn k (by rcases List.mem_append.1 hk with h | h<;>simp [h]) (fun e=>hnot (e ▸ hk)) q hkq
    refine call_step hE I hF hfl1 hfree (Array.getElem?_eq_getElem hlt) h2 hcop hcg hA htm hcc fun g' w' a' hst=>?_
    exact free_block hE hops hback hap hcut m (by simp at hm ⊢; omega) (L.step hi) hst.inv hst.fr hst.flat h5 fun listed' g'' w'' a'' L' hst'=>hK listed' g'' w'' a'' L' (hst.trans hst')
   ·have hnc:isCall ao=false:=hn i hmem hic ao h1
    refine opIn_free hE I hF hfl (Array.getElem?_eq_getElem hlt) h2 (freeOper_kill (cE':=cE) hnc h3) fun g' w' a' hst=>?_
    refine fre_block hE hops hback hap hcut hco hcop hcg htm hcc hfree hfl1 hS m (by simp at hm ⊢; omega) ?_ (fun k hk=>hn k (by rcases List.mem_append.1 hk with h | h<;>simp [h])) (L.step hi) hst.inv hst.fr hst.flat h4 fun listed' g'' w'' a'' L' hst'=>hK listed' g'' w'' a'' L' (hst.trans hst')
    rcases List.mem_append.1 hcm with h | h
    ·exact List.mem_append_left _ h
    ·rcases List.mem_cons.1 h with h | h
     ·exact absurd h.symm hic
     ·exact List.mem_append_right _ h
theorem chn_block {meth:Nat→String→Option Nat} (hM:MethOk P meth) (hE:CallOk P cE) (hops:OpsOk P nt tk ops os) (hback:backOk ops.toList=true) (hap:apartOk (ancs ops.toList []) os=true) {p fuel:Nat} {C:Option (St×St)} {D:Option (Nat×Nat×Option Nat)} {S0 Si T1:St} {F1:Fr} (hgn:Gone D S0) (hC:∀ A B,C=some (A,B)→A=Si∧B=taken Si D) (hcut:p < ops.size→cutAt (ancs ops.toList []) p=true) :
  ∀ (m:Nat) {rem:List Nat} {listed:Array Bool} {T:St} {g:Gh} {w:World} {F:Fr} {a:Act},rem.length=m→Ext S0 T→(C≠none→T=Si∨T=taken Si D)→(∀ t,tame (F t)=true)→Lst ops.size (ancs ops.toList []) listed p rem→Inv P T g w→FrRel P T g w nt F a.tmps→Flat T→chnL cE C D S0 (rem.filterMap fun k=>os[k]?) F T=some (F1,T1) →
   (∀ listed' g' w' a',Lst ops.size (ancs ops.toList []) listed' p []→StepTo P T g w a nt T1 F1 g' w' a'→(∀ t,tame (F1 t)=true)→wpAnyIn (fen ro) 0 P .any ops Q fuel listed' a' w')→wpAnyIn (fen ro) 0 P .any ops Q (m+fuel) listed a w
 | 0,rem,listed,T,g,w,F,a,hm,hx,hCT,ht,L,I,hF,hfl,hv,hK=>by
  have:rem=[]:=List.eq_nil_of_length_eq_zero hm
  subst this
  simp [chnL] at hv
  obtain ⟨rfl,rfl⟩:=hv
  rw [Nat.zero_add]
  exact hK _ _ _ _ L (FrRel.eval hF hfl I) ht
 | m+1,rem,listed,T,g,w,F,a,hm,hx,hCT,ht,L,I,hF,hfl,hv,hK=>by
  have hne:rem≠[]:=by intro h; rw [h] at hm; simp at hm
  rw [show m+1+fuel=(m+fuel)+1 from by omega]
  refine ⟨fun h=>?_,fun i hi=>?_⟩
  ·cases rem with
   | nil=>exact absurd rfl hne
   | cons i post =>
    have:=ready_first rfl hback L
    rw [h] at this; cases this
  ·have hmem:=ready_mem rfl hcut hi hne L
   obtain ⟨pre,post,rfl⟩:=List.append_of_mem hmem
   have hlt:i < ops.size:=Nat.lt_of_lt_of_le (L.mem i (by simp)) L.le
   obtain ⟨ao,h1,h2⟩:=hops.2 i ops[i] (Array.getElem?_eq_getElem hlt)
   rw [List.filterMap_append,List.filterMap_cons_some h1] at hv
   have hs:=L.sorted
   rw [List.pairwise_append] at hs
   obtain ⟨ws,T2,h3,h4⟩:=chnL_first (fun q hq=>by
    obtain ⟨k,hk,hkq⟩:=List.mem_filterMap.1 hq
    refine apart_spec hap h1 hkq (hs.2.2 k hk i List.mem_cons_self) fun hb=>?_
    have:=ready_anc L hi k hb
    exact ((L.iff k).1 this).2 (List.mem_append_left _ hk)) hv
   rw [← List.filterMap_append] at h4
   have hmem':∀ A B,C=some (A,B)→T=A∨T=B:=fun A B e=>by
    obtain ⟨rfl,rfl⟩:=hC A B e
    exact hCT (by rw [e]; simp)
   have hgo:seqOper meth cE ao F T=some (.ok (puts ws F) T2)→Ext S0 T2→(C≠none→T2=Si∨T2=taken Si D)→wpOpIn (fen ro) 0 P ops Q i (fun a' w'=>wpAnyIn (fen ro) 0 P .any ops Q (m+fuel) (listed.setIfInBounds i true) a' w') a w:=fun hs1 hs2 hs3=>by
    refine opIn_seq hM hE I hF ht hfl (Array.getElem?_eq_getElem hlt) h2 hs1 ⟨fun F' T' e g' w' a' hst htt=>?_,fun v T' e=>by cases e⟩
    cases e
    exact chn_block hM hE hops hback hap hgn hC hcut m (by simp at hm ⊢; omega) hs2 hs3 htt (L.step hi) hst.inv hst.fr hst.flat h4 fun listed' g'' w'' a'' L' hst'=>hK listed' g'' w'' a'' L' (hst.trans hst')
   by_cases hpl:isMk ao=false∧isTk D ao F=false
   ·obtain ⟨rfl,_,h5⟩:=chnEff_no hpl.1 hpl.2 h3
    rcases h5 with ⟨hnc,h5,h6⟩ | ⟨_,h5⟩
    ·refine opIn_free hE I hF hfl (Array.getElem?_eq_getElem hlt) h2 (F':=puts ws F) (by unfold freeOper; rw [freeEff_ext (cE':=cE) hx hnc h5]; rfl) fun g' w' a' hst=>?_
     exact chn_block hM hE hops hback hap hgn hC hcut m (by simp at hm ⊢; omega) hx hCT (puts_tame h6 ht) (L.step hi) hst.inv hst.fr hst.flat h4 fun listed' g'' w'' a'' L' hst'=>hK listed' g'' w'' a'' L' (hst.trans hst')
    ·obtain ⟨bs,R,hTp⟩:=hfl.pos
     exact hgo (clEff_seq h5 hmem' ⟨_,_,hTp⟩) hx hCT
   ·cases hmk:isMk ao with
    | true =>
     obtain ⟨_,hCn,k,h5,h6⟩:=chnEff_mk hmk h3
     obtain ⟨h7,h8⟩:=mkEff_seq (meth:=meth) (cE:=cE) h5
     exact hgo h7 (h8 D S0 h6 hgn hx) fun h=>absurd hCn h
    | false =>
     have htk:isTk D ao F=true:=by simpa [hmk] using hpl
     have htk2:=chnEff_tk htk h3
     obtain ⟨h7,h8⟩:=tkEff_seq (meth:=meth) (cE:=cE) htk htk2
     exact hgo h7 (h8 S0 hgn hx) fun h=>.inr (tk_taken (hCT h) htk2)
theorem freeC_inv {os:List AOper} {F F3:Fr} {S S':St} (h:freeC cE os F S=some (F3,S')):∃ (pre:List AOper) (o:AOper) (post:List AOper) (f:Nat) (xs:List Opd) (A:List V) (v:V) (l b:Nat),os=pre++o::post∧o.op=.call f xs∧o.gd=none∧(∀ q∈pre,isCall q=false)∧(∀ q∈post,isCall q=false) ∧
  tames A=true∧cE (.fn f) A S=some (.ret v,S')∧ownFree S=true∧setBox S l b dead=setBox S' l b dead∧freeL (cEv f A v) (setBox S l b dead) os F=some F3:=by
 unfold freeC at h
 have hsp:=List.takeWhile_append_dropWhile (p:=fun o=>!isCall o) (l:=os)
 have hpre:∀ q∈os.takeWhile (fun o=>!isCall o),isCall q=false:=fun q hq=>by
  have:∀ (l:List AOper), ∀ q∈l.takeWhile (fun o=>!isCall o),isCall q=false:=by
   intro l
   induction l with
   | nil=>intro q hq; cases hq
   | cons x l ih =>
    intro q hq
    rw [List.takeWhile_cons] at hq
    split at hq
    ·rename_i hx
     rcases List.mem_cons.1 hq with rfl | hq
     ·simpa using hx
     ·exact ih q hq
    ·cases hq
  exact this os q hq
 generalize os.takeWhile (fun o=>!isCall o)=pre at h hsp hpre
 generalize os.dropWhile (fun o=>!isCall o)=dr at h hsp
 split at h<;>try (cases h; done)
 rename_i o post
 split at h<;>try (cases h; done)
 rename_i f xs hop
 obtain ⟨F1,_,h⟩:=Option.bind_eq_some_iff.1 h
 split at h<;>try (cases h; done)
 rename_i l b v S1 _ hcc
 split at h<;>try (cases h; done)
 rename_i hcond
 obtain ⟨h1,h2,h3,h4,h5,h6⟩:=hcond
 obtain ⟨F4,h7,h8⟩:=Option.map_eq_some_iff.1 h
 injection h8 with h8 h9
 subst h8; subst h9
 exact ⟨pre,o,post,f,xs,_,v,l,b,hsp.symm,hop,h1,hpre,fun q hq=>by simpa using List.all_eq_true.1 h2 q hq,h3,hcc,h5,eqS_eq h6,h7⟩
theorem take_at {α:Type} {os:List α} {p m k:Nat} (hk:k∈List.range' p m):os[k]?=((os.drop p).take m)[k - p]?:=by
 rw [List.mem_range'_1] at hk
 rw [List.getElem?_take,if_pos (by omega),List.getElem?_drop]
 congr 1; omega
theorem filterMap_range:∀ (m p:Nat),p+m≤os.length→(List.range' p m).filterMap (fun k=>os[k]?)=(os.drop p).take m
 | 0,p,_=>by simp
 | m+1,p,h=>by
  rw [List.range'_succ,List.filterMap_cons_some (List.getElem?_eq_getElem (by omega)),filterMap_range m (p+1) (by omega)]
  conv=>rhs; rw [List.drop_eq_getElem_cons (by omega:p < os.length)]
  rfl
theorem lst_block {n p m:Nat} {an:List Nat} {listed:Array Bool} (L:Lst n an listed p []) (h:p+m≤n):Lst n an listed (p+m) (List.range' p m):={
 size:=L.size
 iff j:=by
  rw [L.iff]
  simp only [List.not_mem_nil,not_false_eq_true,and_true,List.mem_range'_1]
  omega
 le:=h
 mem j hj:=by simp only [List.mem_range'_1] at hj; omega
 sorted:=List.pairwise_lt_range'
 clos:=L.clos }
theorem draw_ok {rs:List Nat} {meth:Nat→String→Option Nat} (hM:MethOk P meth) (hE:CallOk P cE) (hops:OpsOk P nt tk ops os) (hback:backOk ops.toList=true) (hap:apartOk (ancs ops.toList []) os=true) :
  ∀ (ns:List Nat) (p:Nat) {T:St} {listed:Array Bool} {g:Gh} {w:World} {F:Fr} {a:Act} {res:Ex×Fr×St},p+ns.sum=ops.size→cutsOk (ancs ops.toList []) p ns=true→ns.all (· != 0)=true→Lst ops.size (ancs ops.toList []) listed p [] →
   Inv P T g w→FrRel P T g w nt F a.tmps→(∀ t,tame (F t)=true)→Flat T→blks meth cE ((parts ns (os.drop p)).map (markB rs)) F T=some res→GoesC P T g w nt a Q res→wpAnyIn (fen ro) 0 P .any ops Q (ops.size - p) listed a w
 | [],p,T,listed,g,w,F,a,res,hs,hc,h0,L,I,hF,ht,hfl,hv,hG=>by
  simp at hs
  subst hs
  simp only [parts,List.map_nil,blks,Option.some.injEq] at hv
  subst hv
  rw [Nat.sub_self]
  refine ⟨?_,hG.nrm _ _ rfl _ _ _ (FrRel.eval hF hfl I) ht⟩
  cases hr:Region.ready .any ops listed with
  | nil=>rfl
  | cons i rest =>
   have hi:i∈Region.ready .any ops listed:=by rw [hr]; exact List.mem_cons_self
   obtain ⟨h1,o,ho,_⟩:=mem_ready.1 hi
   have hlt:=(Array.getElem?_eq_some_iff.1 ho).1
   have h2:=(getD_tf.1 h1).2
   rw [(L.iff i).2 ⟨hlt,by simp⟩] at h2
   cases h2
 | m::ns,p,T,listed,g,w,F,a,res,hs,hc,h0,L,I,hF,ht,hfl,hv,hG=>by
  simp only [List.sum_cons] at hs
  simp only [cutsOk,Bool.and_eq_true] at hc
  simp only [List.all_cons,Bool.and_eq_true,bne_iff_ne,ne_eq] at h0
  have hle:p+m≤ops.size:=by omega
  have hcut:p+m < ops.size→cutAt (ancs ops.toList []) (p+m)=true:=fun h=>by
   cases ns with
   | nil=>simp at hs; omega
   | cons m' ns'=>have:=hc.2; simp only [cutsOk,Bool.and_eq_true] at this; exact this.1
  have L':=lst_block L hle
  simp only [parts,List.map_cons] at hv
  have hdd:(os.drop p).drop m=os.drop (p+m):=by rw [List.drop_drop]
  rw [hdd] at hv
  have hfm:=filterMap_range (os:=os) m p (by rw [hops.1]; exact hle)
  have hlen:((os.drop p).take m).length=m:=by
   have:=hops.1
   simp; omega
  by_cases hm1:m=1
  ·subst hm1
   have hlt:p < ops.size:=by omega
   obtain ⟨ao,h1,h2⟩:=hops.2 p ops[p] (Array.getElem?_eq_getElem hlt)
   have htk:(os.drop p).take 1=[ao]:=by
    rw [← hfm]
    simp [List.range'_succ,List.filterMap_cons_some h1]
   rw [htk] at hv
   simp only [onePart,markB,blks] at hv
   have hf:ops.size - p=(ops.size - (p+1))+1:=by omega
   rw [hf]
   have hrng:List.range' p 1=[p]:=by simp [List.range'_succ]
   rw [hrng] at L'
   refine ⟨fun h=>?_,fun i hi=>?_⟩
   ·have:=ready_first rfl hback L'
    rw [h] at this; cases this
   ·have hmem:=ready_mem rfl hcut hi (by simp) L'
    simp at hmem
    subst hmem
    have L1:=Lst.step (pre:=[]) (post:=[]) L' hi
    split at hv
    ·rename_i F1 T1 hsq
     refine opIn_seq hM hE I hF ht hfl (Array.getElem?_eq_getElem hlt) h2 hsq ⟨fun F' T' e g' w' a' hst htt=>?_,fun v T' e=>by cases e⟩
     cases e
     exact draw_ok hM hE hops hback hap ns (i+1) (by omega) hc.2 h0.2 L1 hst.inv hst.fr htt hst.flat hv (hG.step hst)
    ·rename_i v T1 hsq
     injection hv with hv; subst hv
     refine opIn_seq hM hE I hF ht hfl (Array.getElem?_eq_getElem hlt) h2 hsq ⟨fun F' T' e=>(by cases e),fun v' T' e g' w' x hpn=>?_⟩
     cases e
     exact hG.pan _ _ _ rfl g' w' x a rfl hpn
    ·cases hv
  ·have hone:onePart ((os.drop p).take m)=.free ((os.drop p).take m):=by
    match hb:(os.drop p).take m with
    | []=>rfl
    | [o]=>rw [hb] at hlen; simp at hlen; omega
    | _::_::_=>rfl
   rw [hone] at hv
   simp only [markB] at hv
   have hf:ops.size - p=m+(ops.size - (p+m)):=by omega
   split at hv
   ·simp only [blks] at hv
    split at hv
    ·rename_i F1 T1 hfr
     obtain ⟨pre,co,post,f,xs,A,v,l,b,e0,hcop,hcg,hn1,hn2,htm,hcc,hfree,hS,hfr2⟩:=freeC_inv hfr
     have hlm:pre.length+1+post.length=m:=by
      have:=congrArg List.length e0
      rw [hlen] at this
      simp at this; omega
     have hfl1:Flat T1:=flat_back (l:=l) (i:=b) (cs:=dead) (hS ▸ hfl.setBox l b dead)
     have hcm:p+pre.length∈List.range' p m:=by rw [List.mem_range'_1]; omega
     have hco:os[p+pre.length]?=some co:=by
      rw [take_at hcm,e0,show p+pre.length - p=pre.length from by omega]
      simp
     have hn:∀ k∈List.range' p m,k≠p+pre.length→∀ q,os[k]?=some q→isCall q=false:=by
      intro k hk hne q hq
      rw [take_at hk,e0] at hq
      rw [List.mem_range'_1] at hk
      by_cases h1:k - p < pre.length
      ·rw [List.getElem?_append_left h1] at hq
       exact hn1 q (List.mem_of_getElem? hq)
      ·rw [List.getElem?_append_right (by omega)] at hq
       obtain ⟨j,hj⟩:∃ j,k - p - pre.length=j+1:=⟨k - p - pre.length - 1,by omega⟩
       rw [hj,List.getElem?_cons_succ] at hq
       exact hn2 q (List.mem_of_getElem? hq)
     have hfr3:=hfr2
     rw [← hfm] at hfr3
     rw [hf]
     refine fre_block hE hops hback hap hcut hco hcop hcg htm hcc hfree hfl1 hS m (by simp) hcm hn L' I hF hfl hfr3 fun listed' g' w' a' L1 hst=>?_
     obtain ⟨g2,h1,h2⟩:=settle_ok (os:=(os.drop p).take m) hst.inv hst.fr hst.flat (fun t=>freeL_tame hfr2 t (ht t))
     have h3:=hst.trans h1
     exact draw_ok hM hE hops hback hap ns (p+m) (by omega) hc.2 h0.2 L1 h3.inv h3.fr h2 h3.flat hv (hG.step h3)
    ·cases hv
   split at hv
   ·simp only [blks] at hv
    split at hv
    ·rename_i F1 T1 hch
     rw [← hfm] at hch
     rw [hf]
     refine chn_block hM hE hops hback hap (Si:=T) (gone_without _) (fun A B e=>by split at e<;>cases e; exact ⟨rfl,rfl⟩) hcut m (by simp) (ext_without _) (fun _=>.inl rfl) ht L' I hF hfl hch fun listed' g' w' a' L1 hst htt=>?_
     exact draw_ok hM hE hops hback hap ns (p+m) (by omega) hc.2 h0.2 L1 hst.inv hst.fr htt hst.flat hv (hG.step hst)
    ·cases hv
   ·simp only [blks] at hv
    split at hv
    ·rename_i F1 hfr
     rw [← hfm] at hfr
     rw [hf]
     refine free_block hE hops hback hap hcut m (by simp) L' I hF hfl hfr fun listed' g' w' a' L1 hst=>?_
     rw [hfm] at hfr
     obtain ⟨g2,h1,h2⟩:=settle_ok (os:=(os.drop p).take m) hst.inv hst.fr hst.flat (fun t=>freeL_tame hfr t (ht t))
     have h3:=hst.trans h1
     exact draw_ok hM hE hops hback hap ns (p+m) (by omega) hc.2 h0.2 L1 h3.inv h3.fr h2 h3.flat hv (hG.step h3)
    ·cases hv
theorem step_drew {T:St} {g:Gh} {w:World} {F:Fr} {a:Act} (I:Inv P T g w) (hF:FrRel P T g w nt F a.tmps) (hfl:Flat T):StepTo P T g w a nt T F g w.drew a:={
 le:=Le.refl _ _
 frm:=⟨rfl,rfl,rfl,Nat.le_refl _,fun _ _ h=>⟨rfl,h,fun _=>rfl⟩⟩
 inv:=⟨I.K,I.G,I.U,I.B,I.L,I.N⟩
 fr:=⟨hF.size,hF.past,fun t x hx=>⟨(hF.tmp t x hx).rel,(hF.tmp t x hx).own,(hF.tmp t x hx).fresh,(hF.tmp t x hx).mir⟩⟩
 len:=rfl
 flat:=hfl
 defs:=rfl
 marks _ _ h:=⟨h,rfl⟩ }
theorem region_ok {meth:Nat→String→Option Nat} (hM:MethOk P meth) (hE:CallOk P cE) (hmix:P.follows .mixedOrders=true) {rs:List Nat} {id:Nat} {draw:Bool} {bs:List Blk} (hc:compReg P nt rs ops.toList draw=some bs) {T:St} {g:Gh} {w:World} {F:Fr} {a:Act} {res:Ex×Fr×St}
  (I:Inv P T g w) (hF:FrRel P T g w nt F a.tmps) (ht:∀ t,tame (F t)=true) (hfl:Flat T) (hv:blks meth cE bs F T=some res) (hG:GoesC P T g w nt a Q res):(Code.region id ops draw).wpIn (fen ro) 0 P Q a w:=by
 unfold compReg at hc
 simp only [Option.bind_eq_some_iff] at hc
 obtain ⟨os,hos,hc⟩:=hc
 obtain ⟨hl,hj⟩:=mapM_get hos
 have hops:OpsOk P nt (takes (takesOf rs ops.toList++hintsOf rs)) ops os:=⟨by simpa using hl,fun i o ho=>hj i o (by simpa using ho)⟩
 split at hc
 ·rename_i hd
  split at hc<;>try (cases hc; done)
  rename_i hcond
  obtain ⟨h1,h2,h3,h4,h5⟩:=hcond
  injection hc with hc; subst hc
  subst hd
  refine wpIn_region_any hmix ?_
  have hst:=step_drew I hF hfl
  have L:Lst ops.size (ancs ops.toList []) (Array.replicate ops.size false) 0 []:=⟨by simp,fun j=>by
   simp only [Array.getD_eq_getD_getElem?,Array.getElem?_replicate]
   split<;>simp,Nat.zero_le _,by simp,List.Pairwise.nil,fun i k h=>by
   simp only [Array.getD_eq_getD_getElem?,Array.getElem?_replicate] at h
   split at h<;>simp at h⟩
  have:=draw_ok (ro:=ro) hM hE hops h1 h2 _ 0 (by rw [Nat.zero_add,h4]; simp) h3 h5 L hst.inv hst.fr ht hfl (by simpa using hv) (hG.step hst)
  rwa [Nat.sub_zero] at this
 ·rename_i hd
  injection hc with hc; subst hc
  have:draw=false:=by simpa using hd
  subst this
  refine wpIn_region ?_
  rw [List.range_eq_range']
  exact region_seq hM hE hops ops.size 0 (by rw [hops.1]; omega) I hF ht hfl (by simpa using hv) hG
end
end AM
end Go.Proofs.Ytimfbnojmdnlnaa
end
section
namespace Go.Proofs.Ytimfbnojmdnlnaa
namespace AM
def mk (b:Nat):Deferred:={ target:=.collected b,args:=#[] }
def Marks (lo:Nat) (g:Gh) (w:World) (bs:List Nat):Prop:=bs.Nodup∧∀ b∈bs,lo≤b∧b < w.heap.size∧g.use b=.mark∧w.heap[b]?=some (.deferred (some []))
structure CodeTo (P:Program) (T:St) (g:Gh) (w:World) (a:Act) (nt:Nat) (T':St) (F':Fr) (g':Gh) (w':World) (a':Act):Prop where
 le:Le T.length g g'
 frm:Frm g w g' w'
 inv:Inv P T' g' w'
 fr:FrRel P T' g' w' nt F' a'.tmps
 len:T'.length=T.length
 flat:Flat T'
 tame:∀ t,tame (F' t)=true
 marks:∀ b,b < w.heap.size→g.use b=.mark→g'.use b=.mark∧w'.heap[b]?=w.heap[b]?
 defs:∃ bs:List Nat,a'.defers=bs.map mk++a.defers∧Marks w.heap.size g' w' bs
structure PanTo2 (P:Program) (T:St) (g:Gh) (w:World) (a:Act) (nt:Nat) (v:V) (F':Fr) (T':St) (g':Gh) (w':World) (x:Value) (a':Act):Prop where
 pan:PanTo P T g w nt v F' T' g' w' x a'
 defs:∃ bs:List Nat,a'.defers=bs.map mk++a.defers∧Marks w.heap.size g' w' bs
section
variable {P:Program} {T T' T1:St} {g g1:Gh} {w w1:World} {nt:Nat} {F F1:Fr} {a a1:Act} {cE:CE} {Q:Exit→Act→World→Prop} {ro:Option Nat}
theorem CodeTo.of {F':Fr} {g':Gh} {w':World} {a':Act} (h:StepTo P T g w a nt T' F' g' w' a') (ht:∀ t,AM.tame (F' t)=true):CodeTo P T g w a nt T' F' g' w' a' :=
 ⟨h.le,h.frm,h.inv,h.fr,h.len,h.flat,ht,h.marks,[],by simpa using h.defs,by simp [Marks]⟩
theorem marks_add {a2:Act} {g2:Gh} {w2:World} (hm:∀ b,b < w1.heap.size→g1.use b=.mark→g2.use b=.mark∧w2.heap[b]?=w1.heap[b]?) (hsz:w.heap.size≤w1.heap.size) (hsz2:w1.heap.size≤w2.heap.size)
  (h1:∃ bs:List Nat,a1.defers=bs.map mk++a.defers∧Marks w.heap.size g1 w1 bs) (h2:∃ bs:List Nat,a2.defers=bs.map mk++a1.defers∧Marks w1.heap.size g2 w2 bs) :
  ∃ bs:List Nat,a2.defers=bs.map mk++a.defers∧Marks w.heap.size g2 w2 bs:=by
 obtain ⟨bs1,e1,n1,m1⟩:=h1
 obtain ⟨bs2,e2,n2,m2⟩:=h2
 refine ⟨bs2++bs1,by rw [e2,e1]; simp,?_,fun b hb=>?_⟩
 ·rw [List.nodup_append]
  refine ⟨n2,n1,fun b hb c hc e=>?_⟩
  subst e
  have:=(m2 b hb).1
  have:=(m1 b hc).2.1
  omega
 ·rcases List.mem_append.1 hb with hb | hb
  ·obtain ⟨k1,k2,k3⟩:=m2 b hb
   exact ⟨by omega,k2,k3⟩
  ·obtain ⟨k1,k2,k3,k4⟩:=m1 b hb
   obtain ⟨k5,k6⟩:=hm b k2 k3
   exact ⟨k1,by omega,k5,k6.trans k4⟩
theorem CodeTo.trans {T2:St} {g2:Gh} {w2:World} {a2:Act} {F2:Fr} (h:CodeTo P T g w a nt T1 F1 g1 w1 a1) (k:CodeTo P T1 g1 w1 a1 nt T2 F2 g2 w2 a2):CodeTo P T g w a nt T2 F2 g2 w2 a2:={
 le:=h.le.trans (by have:=k.le; rwa [h.len] at this)
 frm:=h.frm.trans k.frm
 inv:=k.inv
 fr:=k.fr
 len:=k.len.trans h.len
 flat:=k.flat
 tame:=k.tame
 marks b hb hu:=by
  obtain ⟨u1,e1⟩:=h.marks b hb hu
  obtain ⟨u2,e2⟩:=k.marks b (Nat.lt_of_lt_of_le hb h.frm.size) u1
  exact ⟨u2,e2.trans e1⟩
 defs:=marks_add k.marks h.frm.size k.frm.size h.defs k.defs }
theorem PanTo2.after {T2:St} {g2:Gh} {w2:World} {a2:Act} {v:V} {F2:Fr} {x:Value} (h:CodeTo P T g w a nt T1 F1 g1 w1 a1) (k:PanTo2 P T1 g1 w1 a1 nt v F2 T2 g2 w2 x a2):PanTo2 P T g w a nt v F2 T2 g2 w2 x a2:={
 pan:={
  fr:=k.pan.fr
  le:=h.le.trans (by have:=k.pan.le; rwa [h.len] at this)
  frm:=h.frm.trans k.pan.frm
  inv:=k.pan.inv
  len:=k.pan.len.trans h.len
  marks:=fun b hb hu=>by
   obtain ⟨u1,e1⟩:=h.marks b hb hu
   obtain ⟨u2,e2⟩:=k.pan.marks b (Nat.lt_of_lt_of_le hb h.frm.size) u1
   exact ⟨u2,e2.trans e1⟩
  rel:=k.pan.rel }
 defs:=marks_add k.pan.marks h.frm.size k.pan.frm.size h.defs k.defs }
structure GoesX (P:Program) (T:St) (g:Gh) (w:World) (nt:Nat) (a:Act) (Q:Exit→Act→World→Prop) (res:Ex×Fr×St):Prop where
 nrm:∀ F' T',res=(.nrm,F',T')→∀ g' w' a',CodeTo P T g w a nt T' F' g' w' a'→Q .normal a' w'
 ret:∀ F' T',res=(.ret,F',T')→∀ g' w' a',CodeTo P T g w a nt T' F' g' w' a'→Q .ret a' w'
 exit:∀ id F' T',res=(.exit id,F',T')→∀ g' w' a',CodeTo P T g w a nt T' F' g' w' a'→Q (.exit id) a' w'
 pan:∀ v F' T',res=(.pan v,F',T')→∀ g' w' x a',PanTo2 P T g w a nt v F' T' g' w' x a'→Q (.panic [{ v:=x,recovered:=false }]) a' w'
theorem GoesX.step {res:Ex×Fr×St} (h:CodeTo P T g w a nt T1 F1 g1 w1 a1) (k:GoesX P T g w nt a Q res):GoesX P T1 g1 w1 nt a1 Q res:={
 nrm F' T' e g' w' a' hs:=k.nrm F' T' e g' w' a' (h.trans hs)
 ret F' T' e g' w' a' hs:=k.ret F' T' e g' w' a' (h.trans hs)
 exit id F' T' e g' w' a' hs:=k.exit id F' T' e g' w' a' (h.trans hs)
 pan v F' T' e g' w' x a' hp:=k.pan v F' T' e g' w' x a' (hp.after h) }
theorem GoesX.region {res:Ex×Fr×St} (k:GoesX P T g w nt a Q res):GoesC P T g w nt a Q res:={
 nrm F' T' e g' w' a' hs ht:=k.nrm F' T' e g' w' a' (.of hs ht)
 pan v F' T' e g' w' x a' hd hp:=k.pan v F' T' e g' w' x a' ⟨hp,[],by simpa using hd,by simp [Marks]⟩ }
theorem least {p:Nat→Prop}:∀ (n:Nat),p n→∃ k,p k∧∀ j,p j→k≤j:=by
 intro n
 induction n using Nat.strongRecOn with
 | _ n ih =>
  intro hn
  by_cases h:∃ m,m < n∧p m
  ·obtain ⟨m,hm,hp⟩:=h
   exact ih m hm hp
  ·exact ⟨n,hn,fun j hj=>Nat.le_of_not_lt fun hlt=>h ⟨j,hlt,hj⟩⟩
theorem wpIn_loopN {Fc:Fence} {n:Nat} {c:Code} (J:Nat→Act→World→Prop) {k:Nat} (h0:J k a w) (round:∀ k a w,J k a w→c.wpIn Fc n P (Exit.then (fun a' w'=>∃ k',k' < k∧J k' a' w') Q) a w):(Code.loop c).wpIn Fc n P Q a w:=by
 classical
 let μ:Act→World→Nat:=fun a w=>if h:∃ k,J k a w then Classical.choose (least (p:=fun k=>J k a w) h.choose h.choose_spec) else 0
 have hμ:∀ a w k,J k a w→J (μ a w) a w∧μ a w≤k:=fun a w k hk=>by
  have h:∃ k,J k a w:=⟨k,hk⟩
  have hs:=Classical.choose_spec (least (p:=fun k=>J k a w) h.choose h.choose_spec)
  simp only [μ,dif_pos h]
  exact ⟨hs.1,hs.2 k hk⟩
 refine wpIn_loop (fun a w=>∃ k,J k a w) μ ⟨k,h0⟩ fun a w ⟨k,hk⟩=>?_
 obtain ⟨h1,h2⟩:=hμ a w k hk
 refine wpIn_mono (round _ a w h1) fun e a' w' he=>?_
 cases e with
 | normal =>
  obtain ⟨k',hlt,hJ⟩:=he
  exact ⟨⟨k',hJ⟩,Nat.lt_of_le_of_lt (hμ a' w' k' hJ).2 hlt⟩
 | _=>exact he
end
end AM
end Go.Proofs.Ytimfbnojmdnlnaa
end
section
namespace Go.Proofs.Ytimfbnojmdnlnaa
namespace AM
section
variable {P:Program} {T:St} {g:Gh} {w:World} {nt:Nat} {F:Fr} {a:Act} {cE:CE} {Q:Exit→Act→World→Prop} {ro:Option Nat}
def Gh.looped (g:Gh) (N l:Nat):Gh:=⟨g.G,g.bx,fun l'=>if l'=l then N+1 else g.lp l',fun b=>if b=N then .mark else if b=N+1 then .loop l else g.use b,g.al⟩
theorem calm_tame {v:V} (h:tame v=true):calm v=strip v:=by cases v<;>first | rfl | cases h
theorem rng_enter {bs:List (List V)} {R:St} (I:Inv P (⟨bs,none⟩::R) g w) (hF:FrRel P (⟨bs,none⟩::R) g w nt F a.tmps) (ht:∀ t,tame (F t)=true) {fn:FuncId} {ps:Array Tmp} {x y:Code} {asg body:ACode} {rs:List Nat}
  (h1:compC P nt rs x=some asg) (h2:compC P nt rs y=some body) (h3:noRng asg=true∧noRng body=true) (h4:∀ q∈ps.toList,q < nt) {w1:World}
  (hw:w1=(w.alloc (.deferred (some []))).alloc (.loop { state:=.ready,pending:=none,fn,tmps:=a.tmps,params:=ps,assign:=x,body:=y,defers:=w.heap.size })) :
  Le (R.length+1) g (g.looped w.heap.size R.length)∧Same (fun _=>False) g w (g.looped w.heap.size R.length) w1∧Inv P (⟨bs,some ⟨fun t=>calm (F t),ps.toList,asg,body,none⟩⟩::R) (g.looped w.heap.size R.length) w1 ∧
   w1.heap[w.heap.size]?=some (.deferred (some []))∧w1.heap.size=w.heap.size+2:=by
 have hs0:(w.alloc (.deferred (some []))).heap.size=w.heap.size+1:=World.size_alloc ..
 have hs1:w1.heap.size=w.heap.size+2:=by rw [hw,World.size_alloc,hs0]
 have hN:w1.heap[w.heap.size]?=some (.deferred (some [])):=by
  rw [hw,heap_alloc_old _ _ _ (by rw [hs0]; omega),heap_alloc_new]
 have hN1:w1.heap[w.heap.size+1]?=some (.loop { state:=.ready,pending:=none,fn,tmps:=a.tmps,params:=ps,assign:=x,body:=y,defers:=w.heap.size }):=by
  have:=heap_alloc_new (w.alloc (.deferred (some []))) (.loop { state:=.ready,pending:=none,fn,tmps:=a.tmps,params:=ps,assign:=x,body:=y,defers:=w.heap.size })
  rw [hs0] at this
  rw [hw]; exact this
 have hold:∀ k,k < w.heap.size→w1.heap[k]?=w.heap[k]?:=fun k hk=>by
  rw [hw,heap_alloc_old _ _ _ (by rw [hs0]; omega),heap_alloc_old _ _ _ hk]
 have hu:∀ b,b < w.heap.size→(g.looped w.heap.size R.length).use b=g.use b:=fun b hb=>by
  simp only [Gh.looped]
  rw [if_neg (by omega),if_neg (by omega)]
 have hle:Le (R.length+1) g (g.looped w.heap.size R.length):=by
  refine ⟨fun _ _ _ h=>h,fun l i p _ h=>⟨rfl,h⟩,fun l hl h=>?_⟩
  have:l≠R.length:=by omega
  refine ⟨by simp [Gh.looped,this],by rw [hu _ (use_lt I (by rw [h]; simp))]; exact h⟩
 have hsame:Same (fun _=>False) g w (g.looped w.heap.size R.length) w1:=⟨by rw [hw]; rfl,by rw [hw]; rfl,by rw [hw]; rfl,by rw [hs1]; omega,fun b hb _=>⟨hold b hb,hu b hb,fun _=>rfl⟩⟩
 refine ⟨hle,hsame,?_,hN,hs1⟩
 refine I.step hsame hle (fun b o v hv hc=>?_) (fun b hb=>?_) (fun l i cs hc=>.inl ⟨by simpa [getBox] using hc,fun h=>h,fun _ h=>h⟩) (fun l p hp=>?_) (fun l i hl hn=>?_)
 ·have:=G_lt I (b:=b) (o:=o) (v:=v) hv
  rcases hc with hc | hc
  ·exact hc.1.elim
  ·omega
 ·simp only [Gh.looped]
  rw [if_neg (by omega),if_neg (by omega)]
  exact I.U b (by omega)
 ·simp only [getLp] at hp
  split at hp
  ·rename_i hl
   subst hl
   injection hp with hp; subst hp
   right
   refine ⟨?_,_,by simpa [Gh.looped] using hN1,rfl,⟨rs,by rw [hF.size]; exact h1,by rw [hF.size]; exact h2⟩,h3,fun q hq=>by rw [hF.size]; exact h4 q hq,fun t htt=>?_,fun t z hz=>?_,rfl,rfl⟩
   ·simp only [Gh.looped,if_true]
    rw [if_neg (by omega)]
   ·show calm (F t)=_
    rw [hF.past t (by rw [← hF.size]; exact htt)]
    rfl
   ·show isCalm (calm (F t))=true∧Rel _ _ (calm (F t)) z
    rw [calm_tame (ht t)]
    exact ⟨isCalm_strip (ht t),rel_strip (rel_mono hle (Nat.le_refl _) _ _ (hF.tmp t z hz).rel)⟩
  ·rename_i hl
   left
   refine ⟨by simpa [getLp,hl] using hp,fun h=>h,?_⟩
   have:=getLp_lt hp
   simp; omega
 ·exact I.N l i (by simpa using hl) (by simpa [lenAt] using hn)
theorem inv_endLoop {L:Lev} {R:St} (I:Inv P (L::R) g w) {rc:Loop} {o:Obj} (hu:g.use (g.lp R.length)=.loop R.length) (hh:w.heap[g.lp R.length]?=some (.loop rc)) :
  Same (·=.loop R.length) g w g (w.putObj (g.lp R.length) o)∧Inv P (⟨L.bs,none⟩::R) g (w.putObj (g.lp R.length) o):=by
 have hsame:Same (·=.loop R.length) g w g (w.putObj (g.lp R.length) o):=⟨rfl,rfl,rfl,by simp,fun b hb hub=>⟨World.putObj_heap_other (fun e=>hub (by rw [e]; exact hu)),rfl,fun _=>rfl⟩⟩
 refine ⟨hsame,I.step hsame (Le.refl _ _) (fun b oo v hv hc=>?_) (fun b hb=>I.U b (by simpa using hb)) (fun l i cs hc=>.inl ⟨by simpa [getBox] using hc,by simp,by simp⟩) (fun l p hp=>?_) (fun l i hl hn=>I.N l i (by simpa using hl) (by simpa [lenAt] using hn))⟩
 ·have h2:=(I.G b oo v hv).2
  rcases hc with ⟨hc,_⟩ | hc
  ·rw [hc] at h2; simp at h2
  ·have:=G_lt I hv; omega
 ·simp only [getLp] at hp
  split at hp
  ·cases hp
  ·rename_i hl
   refine .inl ⟨by simp only [getLp,hl,if_false]; exact hp,by simpa using hl,?_⟩
   have:=getLp_lt hp
   simp; omega
theorem rng_ok (hE:CallOk P cE) {rs:List Nat} {x:Operand} {ps:Array Tmp} {ca cb:Code} {X:Opd} {asg body:ACode} (hX:opd x=some X) (h1:compC P nt rs ca=some asg) (h2:compC P nt rs cb=some body) (h3:noRng asg=true∧noRng body=true) (h4:∀ q∈ps.toList,q < nt)
  (I:Inv P T g w) (hF:FrRel P T g w nt F a.tmps) (ht:∀ t,tame (F t)=true) (hfl:Flat T) {meth:Nat→String→Option Nat} {k:Nat} {res:Ex×Fr×St} (hv:codeN meth cE (k+1) (.rng X ps.toList asg body) F T=some res) (hG:GoesX P T g w nt a Q res) :
  (Code.rangeFunc x ps ca cb).wpIn (fen none) 0 P Q a w:=by
 obtain ⟨bs,R,rfl⟩:=hfl.pos
 simp only [codeN] at hv
 split at hv<;>try (cases hv; done)
 rename_i f cs hXe
 split at hv<;>try (cases hv; done)
 rename_i v L' p R' hcall
 simp only [Option.bind_eq_some_iff] at hcall
 obtain ⟨_,htm,hcall⟩:=hcall
 split at htm<;>try (cases htm; done)
 rename_i htm2
 have hrx:=rel_opd hF hX
 rw [hXe] at hrx
 simp only [Rel] at hrx
 obtain ⟨f',cs',hxe,hcs,rfl⟩:=hrx
 refine wpIn_rangeFunc fun fn hfn=>?_
 obtain ⟨w1,hw1⟩:∃ w1,w1=(w.alloc (.deferred (some []))).alloc (.loop { state:=.ready,pending:=none,fn,tmps:=a.tmps,params:=ps,assign:=ca,body:=cb,defers:=w.heap.size }):=⟨_,rfl⟩
 obtain ⟨hle1,hsame1,I1,hmk,hsz1⟩:=rng_enter (x:=ca) (y:=cb) (fn:=fn) (ps:=ps) I hF ht h1 h2 h3 h4 hw1
 have hlp1:(g.looped w.heap.size R.length).lp R.length=w.heap.size+1:=by simp [Gh.looped]
 have hu1:(g.looped w.heap.size R.length).use ((g.looped w.heap.size R.length).lp R.length)=.loop R.length:=by
  rw [hlp1]; simp [Gh.looped]
 have hum:(g.looped w.heap.size R.length).use w.heap.size=.mark:=by simp [Gh.looped]
 obtain ⟨g1,hg1⟩:∃ g1,g1=g.looped w.heap.size R.length:=⟨_,rfl⟩
 rw [← hg1] at hle1 hsame1 I1 hlp1 hu1 hum
 obtain ⟨p0,hp0⟩:∃ p0:Lp,p0=⟨fun t=>calm (F t),ps.toList,asg,body,none⟩:=⟨_,rfl⟩
 rw [← hp0] at I1 hcall
 have hud:(g1.drop (R.length+1)).use (g1.lp R.length)=.loop R.length:=by
  rw [drop_keep (by rw [hu1]; simp [keepU])]; exact hu1
 have hargs:RelL (g1.drop (R.length+1)) (R.length+1+1) (.func (.yield R.length) []::cs.map strip) (.func (.yield (w.heap.size+1)) #[] #[]::cs'):=by
  simp only [RelL]
  refine ⟨_,_,rfl,?_,relL_mono ((hle1.trans le_drop)) (Nat.le_succ _) _ _ (relL_strip hcs)⟩
  simp only [Rel,RelL]
  exact ⟨_,[],rfl,rfl,trivial,by omega,hud,by rw [← hlp1]; rfl⟩
 have hcalm:∀ v∈(V.func (.yield R.length) []::cs.map strip),isCalm v=true:=by
  intro v hv
  rcases List.mem_cons.1 hv with rfl | hv
  ·rfl
  ·exact calm_args htm2 v hv
 obtain ⟨hent,hc⟩:=hE (.fn f) _ _ _ _ hcall (g1.drop (R.length+1)) w1 _ (inv_drop I1) (clean_drop _) hargs hcalm
 refine ⟨w.heap.size+1,[mk w.heap.size],w1, { target:=.fn (.func f) ⟨cs'⟩,args:=#[.func (.yield (w.heap.size+1)) #[] #[]] },w1,f,⟨.func (.yield (w.heap.size+1)) #[] #[]::cs'⟩,w1,by rw [hw1]; exact run_enterLoop_outer (P:=P) (w:=w) fn a.tmps ps ca cb,?_,fun _ _=>trivial,?_,fun h=>by simp [fen,Fence.wide] at h,?_⟩
 ·have e:a.eval (.const (.func (.yield (w.heap.size+1)) #[] #[]))=.func (.yield (w.heap.size+1)) #[] #[]:=rfl
  simp [resolve,rangeCall,hxe,Deferred.ofValue,e]
 ·have e:(#[Value.func (.yield (w.heap.size+1)) #[] #[]]++(⟨cs'⟩:Array Value))=⟨.func (.yield (w.heap.size+1)) #[] #[]::cs'⟩:=by apply Array.ext'; simp
  simp only [invoke,e,run_callFunc hent]
 ·have hc':CallsIn (fen none) 0 P f ⟨.func (.yield (w.heap.size+1)) #[] #[]::cs'⟩ w1 (OutPost P (⟨bs,some p0⟩::R) (g1.drop (R.length+1)) w1 (⟨L',some p⟩::R') (.ret v)):=hc
  refine CallsIn.mono hc' fun e w3 he=>?_
  obtain ⟨g2,y,rfl,hdn,I2,hlen,_⟩:=he
  have hR:R'.length=R.length:=by simpa using hlen
  obtain ⟨hle3,htop3,hsame3,I3⟩:=inv_give I1 hdn I2 hlen none
  obtain ⟨htl,htu⟩:=htop3 R.length rfl hu1
  have hlp3:(g1.give g2 (⟨bs,some p0⟩::R:St).length w1.heap.size none).lp R'.length=w.heap.size+1:=by
   rw [hR]; show g2.lp R.length=_
   rw [htl]; exact hlp1
  obtain ⟨g3,hg3⟩:∃ g3,g3=g1.give g2 (⟨bs,some p0⟩::R:St).length w1.heap.size none:=⟨_,rfl⟩
  rw [← hg3] at hle3 hsame3 I3 hlp3 htu
  obtain ⟨hu3,r3,hh3,_,_,_,_,_,_,hj3⟩:=I3.L R'.length p (by simp [getLp])
  have hh3':w3.heap[w.heap.size+1]?=some (.loop r3):=by rw [← hlp3]; exact hh3
  have hbusy:r3.state≠.busy∧(∀ e,p.jump=e→(e=none→r3.pending=none)∧(e=some .ret→r3.pending=some .ret)∧∀ id,e=some (.exit id)→r3.pending=some (.exit id))∨p.jump=some .nrm∨∃ v,p.jump=some (.pan v):=by
   cases hpj:p.jump with
   | none=>rw [hpj] at hj3; obtain ⟨q1,q2⟩:=hj3; exact .inl ⟨by rw [q1]; simp,fun e he=>by subst he; simp [q2]⟩
   | some e =>
    rw [hpj] at hj3
    cases e with
    | nrm=>exact .inr (.inl rfl)
    | ret=>obtain ⟨q1,q2⟩:=hj3; exact .inl ⟨by rw [q1]; simp,fun e he=>by subst he; simp [q2]⟩
    | exit id=>obtain ⟨q1,q2⟩:=hj3; exact .inl ⟨by rw [q1]; simp,fun e he=>by subst he; simp [q2]⟩
    | pan v=>exact .inr (.inr ⟨v,rfl⟩)
  obtain ⟨hsame4,I4⟩:=inv_endLoop (o:=.loop { r3 with state:=.exhausted }) I3 (by rw [hlp3]; rw [hlp3] at hu3; exact hu3) hh3
  rw [hlp3] at hsame4 I4
  obtain ⟨w4,hw4⟩:∃ w4,w4=w3.putObj (w.heap.size+1) (.loop { r3 with state:=.exhausted }):=⟨_,rfl⟩
  have hsz4:w4.heap.size=w3.heap.size:=by rw [hw4]; simp
  have hrun4:r3.state≠.busy→(Instr.endLoop (w.heap.size+1)).run P w3=.ok r3.pending w4:=fun h=>by rw [hw4]; exact run_endLoop hh3' h
  rw [← hw4] at hsame4 I4
  have hlenT:(⟨L',none⟩::R':St).length=(⟨bs,none⟩::R:St).length:=by simp [hR]
  have hcode:∀ (a':Act),a'.tmps=a.tmps→a'.defers=mk w.heap.size::a.defers→CodeTo P (⟨bs,none⟩::R) g w a nt (⟨L',none⟩::R') F g3 w4 a':=by
   intro a' ha1 ha2
   have hle:Le (R.length+1) g g3:=hle1.trans hle3
   refine ⟨hle,((hsame1.frm (fun h=>h)).trans (hsame3.frm (by simp [keepU]))).trans (hsame4.frm (by simp)),I4,⟨by rw [ha1]; exact hF.size,hF.past,fun t z hz=>?_⟩,hlenT,trivial,ht,fun b hb hu=>?_,[w.heap.size],by rw [ha2]; rfl,by simp,fun b hb=>?_⟩
   ·rw [ha1] at hz
    have k1:=(hF.tmp t z hz).same (T':=⟨bs,some p0⟩::R) I hsame1 hle1 rfl (fun h=>h) (.inl (not_mir (ht t)))
    have k2:=k1.same (T':=⟨L',some p⟩::R') I1 hsame3 hle3 hlen (by simp [keepU]) (.inl (not_mir (ht t)))
    exact k2.same (T':=⟨L',none⟩::R') I3 hsame4 (Le.refl _ _) rfl (by simp) (.inl (not_mir (ht t)))
   ·obtain ⟨e1,e2,_⟩:=hsame1.old b hb (fun h=>h)
    obtain ⟨e3,e4,_⟩:=hsame3.old b (by rw [hsz1]; omega) (by rw [e2,hu]; simp [keepU])
    obtain ⟨e5,e6,_⟩:=hsame4.old b (by have:=hsame3.size; rw [hsz1] at this; omega) (by rw [e4,e2,hu]; simp)
    exact ⟨(e4.trans e2).trans hu,e5.trans (e3.trans e1)⟩
   ·simp only [List.mem_singleton] at hb
    subst hb
    have hbs:w.heap.size < w1.heap.size:=by rw [hsz1]; omega
    obtain ⟨e3,e4,_⟩:=hsame3.old w.heap.size hbs (by rw [hum]; simp [keepU])
    have hbs3:w.heap.size < w3.heap.size:=Nat.lt_of_lt_of_le hbs hsame3.size
    obtain ⟨e5,e6,_⟩:=hsame4.old w.heap.size hbs3 (by rw [e4,hum]; simp)
    refine ⟨Nat.le_refl _,by rw [hsz4]; exact hbs3,e4.trans hum,e5.trans (e3.trans hmk)⟩
  rcases hbusy with ⟨hb1,hb2⟩ | hbad | ⟨v',hbad⟩
  ·refine ⟨r3.pending,w4,hrun4 hb1,?_⟩
   obtain ⟨hb3,hb4,hb5⟩:=hb2 _ rfl
   split at hv
   ·rename_i hj
    injection hv with hv; subst hv
    rw [hb3 hj]
    exact hG.nrm _ _ rfl _ _ _ (hcode _ rfl rfl)
   ·rename_i hj
    injection hv with hv; subst hv
    rw [hb4 hj]
    exact wpIn_ret (hG.ret _ _ rfl _ _ _ (hcode _ rfl rfl))
   ·rename_i id hj
    injection hv with hv; subst hv
    rw [hb5 id hj]
    exact wpIn_exit (hG.exit _ _ _ rfl _ _ _ (hcode _ rfl rfl))
   ·cases hv
  ·rw [hbad] at hv; cases hv
  ·rw [hbad] at hv; cases hv
end
end AM
end Go.Proofs.Ytimfbnojmdnlnaa
end
section
namespace Go.Proofs.Ytimfbnojmdnlnaa
namespace AM
section
variable {P:Program} {cE:CE}
theorem codeN_ok {meth:Nat→String→Option Nat} (hM:MethOk P meth) (hE:CallOk P cE) (hmix:P.follows .mixedOrders=true) {nt:Nat} {rs:List Nat} {ro:Option Nat} :
  ∀ (k:Nat) {code:Code} {c:ACode} {T:St} {g:Gh} {w:World} {F:Fr} {a:Act} {Q:Exit→Act→World→Prop} {res:Ex×Fr×St},compC P nt rs code=some c→(noRng c=true∨ro=none)→codeN meth cE k c F T=some res →
   Inv P T g w→FrRel P T g w nt F a.tmps→(∀ t,tame (F t)=true)→Flat T→GoesX P T g w nt a Q res→code.wpIn (fen ro) 0 P Q a w
 | 0,code,c,T,g,w,F,a,Q,res,hc,hr,hv,I,hF,ht,hfl,hG=>by simp [codeN] at hv
 | k+1,code,c,T,g,w,F,a,Q,res,hc,hr,hv,I,hF,ht,hfl,hG=>by
  have here:CodeTo P T g w a nt T F g w a:=.of (FrRel.eval hF hfl I) ht
  unfold compC at hc
  split at hc
  ·-- skip
   injection hc with hc; subst hc
   simp [codeN] at hv; subst hv
   exact wpIn_skip (hG.nrm _ _ rfl _ _ _ here)
  ·rename_i id ops draw
   obtain ⟨bs,hbs,rfl⟩:=Option.map_eq_some_iff.1 hc
   simp only [codeN] at hv
   exact region_ok hM hE hmix hbs I hF ht hfl hv hG.region
  ·rename_i x y
   simp only [Option.bind_eq_some_iff,Option.map_eq_some_iff] at hc
   obtain ⟨cx,hcx,cy,hcy,rfl⟩:=hc
   have hrx:noRng cx=true∨ro=none:=hr.imp (fun h=>by simp only [noRng,Bool.and_eq_true] at h; exact h.1) (fun h=>h)
   have hry:noRng cy=true∨ro=none:=hr.imp (fun h=>by simp only [noRng,Bool.and_eq_true] at h; exact h.2) (fun h=>h)
   simp only [codeN] at hv
   refine wpIn_seq ?_
   cases hvx:codeN meth cE k cx F T with
   | none=>rw [hvx] at hv; cases hv
   | some rx =>
    rw [hvx] at hv
    refine codeN_ok hM hE hmix k hcx hrx hvx I hF ht hfl ⟨fun F' T' e g' w' a' hs=>?_,fun F' T' e g' w' a' hs=>?_,fun id F' T' e g' w' a' hs=>?_,fun v F' T' e g' w' x a' hp=>?_⟩
    ·subst e
     exact codeN_ok hM hE hmix k hcy hry hv hs.inv hs.fr hs.tame hs.flat (hG.step hs)
    ·subst e
     injection hv with hv; subst hv
     exact hG.ret _ _ rfl _ _ _ hs
    ·subst e
     injection hv with hv; subst hv
     exact hG.exit _ _ _ rfl _ _ _ hs
    ·subst e
     injection hv with hv; subst hv
     exact hG.pan _ _ _ rfl _ _ _ _ hp
  ·rename_i cd x y
   simp only [Option.bind_eq_some_iff,Option.map_eq_some_iff] at hc
   obtain ⟨C,hC,cx,hcx,cy,hcy,rfl⟩:=hc
   have hrx:noRng cx=true∨ro=none:=hr.imp (fun h=>by simp only [noRng,Bool.and_eq_true] at h; exact h.1) (fun h=>h)
   have hry:noRng cy=true∨ro=none:=hr.imp (fun h=>by simp only [noRng,Bool.and_eq_true] at h; exact h.2) (fun h=>h)
   have hrel:=rel_opd hF hC
   simp only [codeN] at hv
   split at hv
   ·rename_i hCe
    rw [hCe] at hrel
    simp only [Rel] at hrel
    exact wpIn_cond_true hrel (codeN_ok hM hE hmix k hcx hrx hv I hF ht hfl hG)
   ·rename_i hCe
    rw [hCe] at hrel
    simp only [Rel] at hrel
    exact wpIn_cond_false hrel (codeN_ok hM hE hmix k hcy hry hv I hF ht hfl hG)
   ·cases hv
  ·rename_i id x
   obtain ⟨cx,hcx,rfl⟩:=Option.map_eq_some_iff.1 hc
   have hrx:noRng cx=true∨ro=none:=hr.imp (fun h=>by simpa only [noRng] using h) (fun h=>h)
   simp only [codeN] at hv
   refine wpIn_block ?_
   cases hvx:codeN meth cE k cx F T with
   | none=>rw [hvx] at hv; cases hv
   | some rx =>
    rw [hvx] at hv
    refine codeN_ok hM hE hmix k hcx hrx hvx I hF ht hfl ⟨fun F' T' e g' w' a' hs=>?_,fun F' T' e g' w' a' hs=>?_,fun id' F' T' e g' w' a' hs=>?_,fun v F' T' e g' w' x a' hp=>?_⟩
    ·subst e
     injection hv with hv; subst hv
     exact hG.nrm _ _ rfl _ _ _ hs
    ·subst e
     injection hv with hv; subst hv
     exact hG.ret _ _ rfl _ _ _ hs
    ·subst e
     simp only at hv
     simp only [Exit.inBlock]
     split at hv
     ·rename_i h
      injection hv with hv; subst hv
      rw [if_pos h]
      exact hG.nrm _ _ rfl _ _ _ hs
     ·rename_i h
      injection hv with hv; subst hv
      rw [if_neg h]
      exact hG.exit _ _ _ rfl _ _ _ hs
    ·subst e
     injection hv with hv; subst hv
     exact hG.pan _ _ _ rfl _ _ _ _ hp
  ·rename_i x
   obtain ⟨cx,hcx,rfl⟩:=Option.map_eq_some_iff.1 hc
   have hrx:noRng cx=true∨ro=none:=hr.imp (fun h=>by simpa only [noRng] using h) (fun h=>h)
   refine wpIn_loopN (fun j a' w'=>j≤k+1∧∃ T' F' g',codeN meth cE j (.loop cx) F' T'=some res∧Inv P T' g' w'∧FrRel P T' g' w' nt F' a'.tmps∧(∀ t,tame (F' t)=true)∧Flat T'∧GoesX P T' g' w' nt a' Q res) ⟨Nat.le_refl _,T,F,g,hv,I,hF,ht,hfl,hG⟩ fun j a' w' hJ=>?_
   obtain ⟨hj,T',F',g',hv',I',hF',ht',hfl',hG'⟩:=hJ
   cases j with
   | zero=>simp [codeN] at hv'
   | succ j =>
    simp only [codeN] at hv'
    cases hvx:codeN meth cE j cx F' T' with
    | none=>rw [hvx] at hv'; cases hv'
    | some rx =>
     rw [hvx] at hv'
     have hjk:j≤k:=by omega
     have step:∀ {Q':Exit→Act→World→Prop},GoesX P T' g' w' nt a' Q' rx→x.wpIn (fen ro) 0 P Q' a' w':=fun hQ=>codeN_ok hM hE hmix j hcx hrx hvx I' hF' ht' hfl' hQ
     refine step ⟨fun F2 T2 e g2 w2 a2 hs=>?_,fun F2 T2 e g2 w2 a2 hs=>?_,fun id' F2 T2 e g2 w2 a2 hs=>?_,fun v F2 T2 e g2 w2 x a2 hp=>?_⟩
     ·subst e
      exact ⟨j,Nat.lt_succ_self _,by omega,T2,F2,g2,hv',hs.inv,hs.fr,hs.tame,hs.flat,hG'.step hs⟩
     ·subst e
      injection hv' with hv'; subst hv'
      exact hG'.ret _ _ rfl _ _ _ hs
     ·subst e
      injection hv' with hv'; subst hv'
      exact hG'.exit _ _ _ rfl _ _ _ hs
     ·subst e
      injection hv' with hv'; subst hv'
      exact hG'.pan _ _ _ rfl _ _ _ _ hp
  ·rename_i id
   injection hc with hc; subst hc
   simp [codeN] at hv; subst hv
   exact wpIn_exit (hG.exit _ _ _ rfl _ _ _ here)
  ·injection hc with hc; subst hc
   simp [codeN] at hv; subst hv
   exact wpIn_ret (hG.ret _ _ rfl _ _ _ here)
  ·rename_i x ps ca cb
   simp only [Option.bind_eq_some_iff] at hc
   obtain ⟨X,hX,asg,h1,body,h2,hc⟩:=hc
   split at hc<;>try (cases hc; done)
   rename_i hcond
   obtain ⟨hps,hn1,hn2⟩:=hcond
   injection hc with hc; subst hc
   have hro:ro=none:=hr.resolve_left (by simp [noRng])
   subst hro
   exact rng_ok hE hX h1 h2 ⟨hn1,hn2⟩ (fun q hq=>by simpa using List.all_eq_true.1 hps q hq) I hF ht hfl hv hG
  ·cases hc
 termination_by k=>k
end
end AM
end Go.Proofs.Ytimfbnojmdnlnaa
end
section
namespace Go.Proofs.Ytimfbnojmdnlnaa
namespace AM
theorem Same.trans {U:Use→Prop} {g1 g2 g3:Gh} {w1 w2 w3:World} (h:Same U g1 w1 g2 w2) (k:Same U g2 w2 g3 w3):Same U g1 w1 g3 w3:={
 os:=k.os.trans h.os
 tape:=k.tape.trans h.tape
 output:=k.output.trans h.output
 size:=Nat.le_trans h.size k.size
 old b hb hu:=by
  obtain ⟨e1,e2,e3⟩:=h.old b hb hu
  obtain ⟨k1,k2,k3⟩:=k.old b (Nat.lt_of_lt_of_le hb h.size) (by rw [e2]; exact hu)
  exact ⟨k1.trans e1,k2.trans e2,fun o=>(k3 o).trans (e3 o)⟩ }
section
variable {P:Program} {T:St} {g:Gh} {w:World} {nt:Nat} {F:Fr} {a:Act} {cE:CE}
theorem inv_enter (I:Inv P T g w) (hc:Clean T.length g):Inv P (⟨[],none⟩::T) g w:={
 K:=I.K
 G:=I.G
 U:=I.U
 B l i cs h:=by
  simp only [getBox] at h
  split at h
  ·simp [dz] at h
  ·exact I.B l i cs h
 L l p h:=by
  simp only [getLp] at h
  split at h
  ·cases h
  ·exact I.L l p h
 N l i hl hn:=by
  rcases Nat.lt_or_ge l T.length with h | h
  ·refine I.N l i h ?_
   rwa [lenAt_below (by omega)] at hn
  ·exact hc.2 l i h }
theorem inv_marks (I:Inv P T g w) {w':World} (h:Same (·=.mark) g w g w'):Inv P T g w':={
 K:=I.K
 G b o v hv:=by
  obtain ⟨h1,h2⟩:=I.G b o v hv
  refine ⟨?_,h2⟩
  rw [cell?_eq (h.old b (G_lt I hv) (fun e=>by rw [e] at h2; simp at h2)).1]
  exact h1
 U b hb:=I.U b (Nat.le_trans h.size hb)
 B l i cs hc:=(I.B l i cs hc).same I h (Le.refl _ _) (by simp) (by simp)
 L l p hp:=(I.L l p hp).same h (Le.refl _ _) ⟨rfl,(I.L l p hp).1⟩ (by simp)
 N:=I.N }
theorem fr_marks (I:Inv P T g w) (hF:FrRel P T g w nt F a.tmps) {w':World} (h:Same (·=.mark) g w g w'):FrRel P T g w' nt F a.tmps :=
 ⟨hF.size,hF.past,fun t x hx=>(hF.tmp t x hx).same I h (Le.refl _ _) rfl (by simp) (.inr ⟨rfl,by simp⟩)⟩
theorem leaves_marks {fn:Func} {tmps:Array Value} {R:Ending→World→Prop} {Fc:Fence} {n:Nat} {lo:Nat} {u:FrameMode} (hu:u≠.run):∀ {bs:List Nat} {w:World},Marks lo g w bs→(∀ w',Same (·=.mark) g w g w'→LeavesIn Fc n P fn tmps R [] u w')→LeavesInM Fc n P fn tmps R (bs.map mk) u w
 | [],w,_,h=>h w (Same.refl _ _ _)
 | b::bs,w,hm,h=>by
  obtain ⟨hnd,hb⟩:=hm
  rw [List.nodup_cons] at hnd
  obtain ⟨h1,h2,h3,h4⟩:=hb b List.mem_cons_self
  have hsame:Same (·=.mark) g w g (w.putObj b (.deferred none)):=⟨rfl,rfl,rfl,by simp,fun k hk hku=>⟨World.putObj_heap_other (fun e=>hku (by rw [e]; exact h3)),rfl,fun _=>rfl⟩⟩
  simp only [List.map_cons,LeavesInM]
  refine ⟨hu, .inl ⟨b,w.putObj b (.deferred none),rfl,run_takeDeferred h4,leaves_marks (lo:=lo) hu ⟨hnd.2,fun c hc=>?_⟩ fun w' hs=>h w' (hsame.trans hs)⟩⟩
  obtain ⟨k1,k2,k3,k4⟩:=hb c (List.mem_cons_of_mem _ hc)
  refine ⟨k1,by simpa using k2,k3,?_⟩
  have hcb:c≠b:=fun e=>hnd.1 (by rw [← e]; exact hc)
  rw [World.putObj_heap_other hcb]
  exact k4
theorem leaves_marks' {fn:Func} {tmps:Array Value} {R:Ending→World→Prop} {Fc:Fence} {n:Nat} {lo:Nat} {u:FrameMode} (hu:u≠.run) {ds:List Deferred}:∀ {bs:List Nat} {w:World},Marks lo g w bs→(∀ w',Same (·=.mark) g w g w'→w'.heap.size=w.heap.size→(∀ c,c ∉ bs→w'.heap[c]?=w.heap[c]?)→LeavesInM Fc n P fn tmps R ds u w')→LeavesInM Fc n P fn tmps R (bs.map mk++ds) u w
 | [],w,_,h=>h w (Same.refl _ _ _) rfl (fun _ _=>rfl)
 | b::bs,w,hm,h=>by
  obtain ⟨hnd,hb⟩:=hm
  rw [List.nodup_cons] at hnd
  obtain ⟨h1,h2,h3,h4⟩:=hb b List.mem_cons_self
  have hsame:Same (·=.mark) g w g (w.putObj b (.deferred none)):=⟨rfl,rfl,rfl,by simp,fun k hk hku=>⟨World.putObj_heap_other (fun e=>hku (by rw [e]; exact h3)),rfl,fun _=>rfl⟩⟩
  simp only [List.map_cons,List.cons_append,LeavesInM]
  refine ⟨hu, .inl ⟨b,w.putObj b (.deferred none),rfl,run_takeDeferred h4,leaves_marks' (lo:=lo) hu ⟨hnd.2,fun c hc=>?_⟩ fun w' hs hsz hk=>h w' (hsame.trans hs) (by rw [hsz]; simp) fun c hc=>?_⟩⟩
  ·obtain ⟨k1,k2,k3,k4⟩:=hb c (List.mem_cons_of_mem _ hc)
   refine ⟨k1,by simpa using k2,k3,?_⟩
   have hcb:c≠b:=fun e=>hnd.1 (by rw [← e]; exact hc)
   rw [World.putObj_heap_other hcb]
   exact k4
  ·simp only [List.mem_cons,not_or] at hc
   rw [hk c hc.2,World.putObj_heap_other hc.1]
def resSem (tmps:Array Value) (rv:ResultVar):Sem Value :=
 match rv with
 | .tmp t=>pure (tmps.getD t undef)
 | .cell b t=>do loadVar t (← asAddr (tmps.getD b undef))
theorem results_eq (fn:Func) (tmps:Array Value):Go.results fn tmps=(do let vs ← fn.results.mapM (resSem tmps); pure (if h:vs.size=1 then vs[0] else .tuple vs)):=rfl
theorem resOf_ok (I:Inv P T g w) (hF:FrRel P T g w nt F a.tmps) (ht:∀ t,tame (F t)=true) {rv:ResultVar} {r:Res} {v:V} (hc:compRes P rv=some r) (hv:resOf F T r=some v) :
  ∃ x,(resSem a.tmps rv).run P w=.ok x w∧Rel g T.length v x∧tame v=true∧∀ e xs,v=.slice (.own e) xs→∃ t,OwnAt P g w (.tmp t) e x xs:=by
 cases rv with
 | tmp t =>
  simp only [compRes,Option.some.injEq] at hc
  subst hc
  simp only [resOf,Option.some.injEq] at hv
  subst hv
  refine ⟨_,rfl,rel_tmp hF t,ht t,fun e xs h=>?_⟩
  obtain ⟨s,h1,h2,_,h4⟩:=evO_own (x:=.tmp t) (X:=.t t) hF rfl h
  cases h1
  exact ⟨t,h4⟩
 | cell b ty =>
  simp only [compRes,Option.bind_eq_some_iff,Option.map_eq_some_iff] at hc
  obtain ⟨n,hn,gg,hg,rfl⟩:=hc
  have hrx:=rel_tmp hF b
  simp only [resOf] at hv
  split at hv<;>try (cases hv; done)
  rename_i l i off hX
  rw [hX] at hrx
  simp only [Rel] at hrx
  obtain ⟨hl,hu0,hxe⟩:=hrx
  simp only [Option.bind_eq_some_iff] at hv
  obtain ⟨cs,hcs,c,hcc,hv⟩:=hv
  obtain ⟨h1,rfl,h3⟩:=cutL_some hcc
  obtain ⟨_,vs,ty',ex,hh,hi,hrel,_⟩:=I.B l i cs hcs
  have k2:isCells ((cs.drop off).take n)=true:=isCells_iff.2 fun y hy=>isCells_iff.1 hi y (List.mem_of_mem_drop (List.mem_of_mem_take hy))
  have k1:=relL_take n (relL_drop off hrel)
  obtain ⟨y,hy,hry⟩:=run_loadAt (P:=P) (w:=w) (vs:=(vs.drop off).take n) (b:=g.bx l i) (o:=off) hn hg (by rw [List.length_map]; exact h3) (fun j z hz=>by
   rw [List.getElem?_take] at hz
   split at hz
   ·rw [List.getElem?_drop] at hz
    exact cell_box hh hz
   ·cases hz) hv (by rw [isCells_strip]; exact k2) (relL_strip k1)
  have hcalm:=isCalm_ofCells hv k2
  refine ⟨y,?_,rel_mono (Le.refl _ g) (by omega) _ _ hry,tame_of_calm hcalm,fun e xs h=>by subst h; cases hcalm⟩
  simp only [Instr.loadAt,Instr.sureAddr,Sem.run_bind,Sem.run_pure,Result.andThen_ok] at hy
  simp only [resSem,hxe,asAddr,Sem.run_bind,Sem.run_pure,Result.andThen_ok]
  exact hy
theorem resAll_ok (I:Inv P T g w) (hF:FrRel P T g w nt F a.tmps) (ht:∀ t,tame (F t)=true):∀ {rvs:List ResultVar} {rs:List Res} {vs:List V},rvs.mapM (compRes P)=some rs→resAll F T rs=some vs →
  ∃ xs,(rvs.mapM (resSem a.tmps)).run P w=.ok xs w∧RelL g T.length vs xs
 | [],rs,vs,hc,hv=>by
  simp at hc; subst hc
  simp [resAll] at hv; subst hv
  exact ⟨[],rfl,by simp [RelL]⟩
 | rv::rvs,rs,vs,hc,hv=>by
  simp only [List.mapM_cons,Option.pure_def,Option.bind_eq_bind,Option.bind_eq_some_iff] at hc
  obtain ⟨r,hr,rs',hrs,hc⟩:=hc
  simp at hc; subst hc
  simp only [resAll,Option.bind_eq_some_iff,Option.map_eq_some_iff] at hv
  obtain ⟨v,hv1,vs',hv2,rfl⟩:=hv
  obtain ⟨x,h1,h2,_⟩:=resOf_ok I hF ht hr hv1
  obtain ⟨xs,h3,h4⟩:=resAll_ok I hF ht hrs hv2
  refine ⟨x::xs,?_,by simp only [RelL]; exact ⟨x,xs,rfl,rel_strip h2,h4⟩⟩
  simp only [List.mapM_cons,Sem.run_bind,h1,Result.andThen_ok,h3,Sem.run_pure]
theorem results_ok (I:Inv P T g w) (hF:FrRel P T g w nt F a.tmps) (ht:∀ t,tame (F t)=true) {fn:Func} {rs:List Res} {v:V} (hc:fn.results.toList.mapM (compRes P)=some rs) (hv:AM.results F T rs=some v) :
  ∃ x,(Go.results fn a.tmps).run P w=.ok x w∧Rel g T.length v x∧tame v=true∧∀ e xs,v=.slice (.own e) xs→∃ t,OwnAt P g w (.tmp t) e x xs:=by
 have hl:=(mapM_get hc).1
 unfold AM.results at hv
 split at hv
 ·rename_i r
  obtain ⟨rv,hrv⟩:∃ rv,fn.results.toList=[rv]:=by
   match h:fn.results.toList,hl with
   | [rv],_=>exact ⟨rv,rfl⟩
  rw [hrv] at hc
  simp only [List.mapM_cons,List.mapM_nil,Option.pure_def,Option.bind_eq_bind,Option.bind_eq_some_iff] at hc
  obtain ⟨r',hr',_,hn,hc⟩:=hc
  simp at hn; subst hn
  simp at hc; subst hc
  obtain ⟨x,h1,h2,h3,h4⟩:=resOf_ok I hF ht hr' hv
  refine ⟨x,?_,h2,h3,h4⟩
  rw [results_eq,Array.mapM_eq_mapM_toList,hrv]
  simp [h1]
 ·rename_i hne
  obtain ⟨vs,hvs,rfl⟩:=Option.map_eq_some_iff.1 hv
  obtain ⟨xs,h1,h2⟩:=resAll_ok I hF ht hc hvs
  have hxl:xs.length≠1:=by
   intro h
   have h3:=relL_length h2
   have h4:rs.length=vs.length:=by
    clear hv hc hl hne h1 h2 h3 h
    induction rs generalizing vs with
    | nil=>simp [resAll] at hvs; subst hvs; rfl
    | cons r rs ih =>
     simp only [resAll,Option.bind_eq_some_iff,Option.map_eq_some_iff] at hvs
     obtain ⟨_,_,vs',hv2,rfl⟩:=hvs
     simp [ih _ hv2]
   match rs,hne with
   | [],_=>simp at h4; omega
   | [r],hne=>exact hne r rfl
   | _::_::_,_=>simp at h4; omega
  refine ⟨.tuple ⟨xs⟩,?_,by simp only [Rel]; exact ⟨xs,rfl,h2⟩,rfl,fun e ys h=>by cases h⟩
  rw [results_eq,Array.mapM_eq_mapM_toList]
  simp [h1,hxl]
end
end AM
end Go.Proofs.Ytimfbnojmdnlnaa
end
section
namespace Go.Proofs.Ytimfbnojmdnlnaa
namespace AM
section
variable {P:Program} {T:St} {g:Gh} {w:World} {nt:Nat} {F:Fr} {a:Act} {cE:CE}
theorem inv_res (I:Inv P T g w) (hfl:Flat T) {t e:Nat} {x:Value} {xs:List (List V)} (h:OwnAt P g w (.tmp t) e x xs) :
  (∀ n,Le n g (g.use1 x.ownBlock (.row .res)))∧Same (·=.row (.tmp t)) g w (g.use1 x.ownBlock (.row .res)) w∧Inv P T (g.use1 x.ownBlock (.row .res)) w:=by
 have huse:∀ b,x.ownBlock=some b→g.use b=.row (.tmp t):=fun b hb=>by
  obtain ⟨n,cs',h1,h2,h3,h4,h5⟩:=h
  exact (h5 b hb).1
 have hsame:Same (·=.row (.tmp t)) g w (g.use1 x.ownBlock (.row .res)) w:=same_use1 huse
 refine ⟨fun n=>le_use1 n huse,hsame,I.step hsame (le_use1 _ huse) (fun b o v hv hc=>?_) (fun b hb=>?_) (fun l i cs hc=>.inl ⟨hc,by simp,by simp⟩) (fun l p hp=>.inl ⟨hp,by simp,hfl.lp hp⟩) (fun l i hl hn=>?_)⟩
 ·obtain ⟨h1,h2⟩:=I.G b o v hv
  refine ⟨h1,?_⟩
  simp only [Gh.use1]
  split
  ·exact .inr ⟨_,rfl⟩
  ·exact h2
 ·simp only [Gh.use1]
  split
  ·rename_i he
   have:=use_lt I (b:=b) (by rw [huse b he]; simp)
   omega
  ·exact I.U b hb
 ·exact I.N l i hl hn
theorem fr_enter {np:Nat} {args:List V} {vals:List Value} (hr:RelL g (T.length+1) args vals) (hc:∀ v∈args,isCalm v=true) (hn:args.length≤nt):FrRel P (⟨[],none⟩::T) g w nt (args0 args) ((⟨vals⟩:Array Value)++Array.replicate (nt - (⟨vals⟩:Array Value).size) undef)∧∀ t,tame (args0 args t)=true:=by
 have hl:=relL_length hr
 have hcalm:∀ t,isCalm (args0 args t)=true:=fun t=>by
  unfold args0
  cases h:args[t]? with
  | none=>rfl
  | some v=>exact hc v (List.mem_of_getElem? h)
 refine ⟨⟨by simp; omega,fun t ht=>?_,fun t x hx=>TmpAt.calm (hcalm t) ?_⟩,fun t=>tame_of_calm (hcalm t)⟩
 ·unfold args0
  rw [List.getElem?_eq_none (by omega)]
  rfl
 ·unfold args0
  cases h:args[t]? with
  | none=>simp [Rel]
  | some v =>
   have hlt:=(List.getElem?_eq_some_iff.1 h).1
   have hx':vals[t]?=some x:=by
    rw [Array.getElem?_append_left (by simp; omega)] at hx
    simpa using hx
   exact (relL_iff.1 hr).2 t v x h hx'
theorem compF_inv {esc : List Nat} {f : Nat} {af : AFunc} (h : compF P esc f = some af) : ∃ fn c rs,P.funcs[f]? = some fn ∧ fn.body = some c ∧ fn.name ≠ "runtime.NumGoroutine" ∧ fn.results.toList.mapM (compRes P) = some af.res ∧ af.np ≤ fn.ntmps ∧ compC P fn.ntmps rs c = some af.body := by
 unfold compF at h
 simp only [Option.bind_eq_some_iff] at h
 obtain ⟨fn,h1,c,h2,rs,h3,h⟩:=h
 split at h<;>try (cases h; done)
 rename_i hc
 obtain ⟨body,h4,rfl⟩:=Option.map_eq_some_iff.1 h
 exact ⟨fn,c,_,h1,h2,hc.2,h3,hc.1,h4⟩
theorem fn_ok {meth:Nat→String→Option Nat} (hM:MethOk P meth) (hE:CallOk P cE) (hmix:P.follows .mixedOrders=true) {esc:List Nat} {f:Nat} {af:AFunc} (hf:compF P esc f=some af) {k:Nat} {args:List V} (hargs:args.length=af.np) {out:Out} {T':St}
  (hv:leave af (codeN meth cE k af.body (args0 args) (⟨[],none⟩::T))=some (out,T')) {vals:List Value} (I:Inv P T g w) (hc:Clean T.length g) (hr:RelL g (T.length+1) args vals) (hcalm:∀ v∈args,isCalm v=true) :
  Enters P f∧CallsIn Fence.wide 0 P f ⟨vals⟩ w (OutPost P T g w T' out):=by
 obtain ⟨fn,c,rs,h1,h2,h3,h4,h5,h6⟩:=compF_inv hf
 refine ⟨⟨fn,h1,h3,by rw [h2]; rfl⟩,callsIn_of_wp_marks h1 h2 trivial ?_⟩
 obtain ⟨hF,htm⟩:=fr_enter (P:=P) (w:=w) (np:=af.np) hr hcalm (by rw [hargs]; exact h5)
 have I1:=inv_enter I hc
 cases hcode:codeN meth cE k af.body (args0 args) (⟨[],none⟩::T) with
 | none=>rw [hcode] at hv; simp [leave] at hv
 | some res =>
  rw [hcode] at hv
  -- what is left behind,where the body was left well
  have well:∀ (F2:Fr) (T2:St),leave af (some (.ret,F2,T2))=some (out,T')→∀ g2 w2 a2,CodeTo P (⟨[],none⟩::T) g w { tmps:=⟨vals⟩++Array.replicate (fn.ntmps - (⟨vals⟩:Array Value).size) undef,defers:=[] } fn.ntmps T2 F2 g2 w2 a2 →
     LeavesInM Fence.wide 0 P fn a2.tmps (OutPost P T g w T' out) a2.defers .returning w2:=by
   intro F2 T2 hT2 g2 w2 a2 hs
   obtain ⟨bs,hdf,hmk⟩:=hs.defs
   rw [hdf,List.append_nil]
   refine leaves_marks (by simp) hmk fun w3 hsame=>?_
   have I2:=inv_marks hs.inv hsame
   have hF2:=fr_marks hs.inv hs.fr hsame
   obtain ⟨bsT,R,rfl⟩:=hs.flat.pos
   have hRl:R.length=T.length:=by simpa using hs.len
   simp only [leave] at hT2
   split at hT2<;>try (cases hT2; done)
   rename_i v hres
   obtain ⟨x,hx,hrx,htv,hown⟩:=results_ok I2 hF2 hs.tame h4 hres
   show ∃ v,(Go.results fn a2.tmps).run P w3=.ok v w3∧OutPost P T g w T' out (.returned v) w3
   refine ⟨x,hx,?_⟩
   have hrx':Rel g2 (T.length+1) v x:=by rw [← hRl]; exact hrx
   have hle2:Le (T.length+1) g g2:=hs.le
   have hfrm2:Frm g w g2 w3:=hs.frm.trans (hsame.frm (by simp))
   split at hT2
   ·rename_i hlow
    simp only [Option.some.injEq,Prod.mk.injEq] at hT2
    obtain ⟨rfl,rfl⟩:=hT2
    rw [hRl] at hlow
    have hr0:=rel_low v x hlow hrx'
    by_cases ho:∃ e xs,v=.slice (.own e) xs
    ·obtain ⟨e,xs,rfl⟩:=ho
     obtain ⟨t,hO⟩:=hown e xs rfl
     obtain ⟨k1,k2,k3⟩:=inv_res I2 hs.flat hO
     refine ⟨g2.use1 x.ownBlock (.row .res),x,rfl,⟨(hle2.less (Nat.le_succ _)).trans (k1 _),fun l hl hu=>?_,hfrm2.trans (k2.frm (by simp))⟩,inv_pop k3,hRl,rel_mono (k1 _) (Nat.le_refl _) _ _ hr0,rfl,fun e' xs' h=>?_⟩
     ·obtain ⟨e1,e2⟩:=hle2.lp l (by omega) hu
      obtain ⟨e3,e4⟩:=(k1 (T.length+1)).lp l (by omega) (by rw [e1]; exact e2)
      exact ⟨e3.trans e1,by rw [← e1]; exact e4⟩
     ·simp only [V.slice.injEq,SK.own.injEq] at h
      obtain ⟨rfl,rfl⟩:=h
      exact hO.use1 _
    ·exact ⟨g2,x,rfl,⟨hle2.less (Nat.le_succ _),fun l hl hu=>hle2.lp l (by omega) hu,hfrm2⟩,inv_pop I2,hRl,hr0,htv,fun e xs h=>absurd ⟨e,xs,h⟩ ho⟩
   ·split at hT2
    ·split at hT2<;>try (cases hT2; done)
     simp only [Option.some.injEq,Prod.mk.injEq] at hT2
     obtain ⟨rfl,rfl⟩:=hT2
     exact ⟨g2,x,rfl,⟨hle2.less (Nat.le_succ _),fun l hl hu=>hle2.lp l (by omega) hu,hfrm2⟩,I2,hRl,rel_strip hrx',isCalm_strip htv⟩
    ·simp only [Option.bind_eq_some_iff] at hT2
     obtain ⟨v',hv',hT2⟩:=hT2
     split at hT2<;>try (cases hT2; done)
     rename_i hlow'
     simp only [Option.some.injEq,Prod.mk.injEq] at hT2
     obtain ⟨rfl,rfl⟩:=hT2
     have Ip:=inv_pop I2
     have hcalm':=calm_frz hv' hlow'
     have hfz:=frz_ok I2 R.length hv' hlow' hrx
     have hlem:=le_melt I2 R.length
     rw [hRl] at hfz hlem
     refine ⟨g2.melt w3 T.length,x,rfl,⟨(hle2.less (Nat.le_succ _)).trans hlem,fun l hl hu=>?_,hfrm2.trans ((melt_same T.length).frm (by rintro ⟨_,_,h,_⟩; cases h))⟩,by rw [← hRl]; exact inv_melt Ip,hRl,hfz,tame_of_calm hcalm',fun e xs h=>by subst h; cases hcalm'⟩
     obtain ⟨e1,e2⟩:=hle2.lp l (by omega) hu
     refine ⟨e1,?_⟩
     simp only [Gh.melt]
     rw [e2]
  refine codeN_ok (ro:=none) hM hE hmix k h6 (.inr rfl) hcode I1 hF htm trivial ⟨fun F2 T2 e g2 w2 a2 hs=>?_,fun F2 T2 e g2 w2 a2 hs=>?_,fun id F2 T2 e g2 w2 a2 hs=>?_,fun v F2 T2 e g2 w2 x a2 hp=>?_⟩
  ·subst e
   refine well F2 T2 ?_ g2 w2 a2 hs
   rw [← hv]
   cases T2<;>rfl
  ·subst e
   exact well F2 T2 hv g2 w2 a2 hs
  ·subst e
   simp [leave] at hv
  ·subst e
   obtain ⟨bs,hdf,hmk⟩:=hp.defs
   show LeavesInM _ _ _ _ _ _ a2.defers (.panicking _) w2
   rw [hdf,List.append_nil]
   refine leaves_marks (by simp) hmk fun w3 hsame=>?_
   cases T2 with
   | nil=>simp [leave] at hv
   | cons L R =>
    simp only [leave] at hv
    split at hv<;>try (cases hv; done)
    simp only [Option.some.injEq,Prod.mk.injEq] at hv
    obtain ⟨rfl,rfl⟩:=hv
    have hRl:R.length=T.length:=by simpa using hp.pan.len
    have hle2:Le (T.length+1) g g2:=hp.pan.le
    exact ⟨g2,x,rfl,⟨hle2.less (Nat.le_succ _),fun l hl hu=>hle2.lp l (by omega) hu,hp.pan.frm.trans (hsame.frm (by simp))⟩,inv_pop (inv_marks hp.pan.inv hsame),hRl,hp.pan.rel⟩
end
end AM
end Go.Proofs.Ytimfbnojmdnlnaa
end
section
namespace Go.Proofs.Ytimfbnojmdnlnaa
namespace AM
section
variable {P:Program} {T:St} {g:Gh} {w:World} {nt:Nat} {F:Fr} {cE:CE}
theorem fr_puts:∀ {ps:List Nat} {args:List V} {vals:List Value} {F:Fr} {tmps:Array Value},FrRel P T g w nt F tmps→(∀ t,tame (F t)=true)→(∀ q∈ps,q < nt)→RelL g T.length args vals→(∀ v∈args,isCalm v=true) →
  FrRel P T g w nt (putPs F ps args) ((ps.zip vals).foldl (fun tmps (x:Nat×Value)=>tmps.setIfInBounds x.1 x.2) tmps)∧∀ t,tame (putPs F ps args t)=true
 | [],args,vals,F,tmps,hF,ht,_,_,_=>by
  cases args<;>exact ⟨by simpa [putPs] using hF,by simpa [putPs] using ht⟩
 | p::ps,[],vals,F,tmps,hF,ht,_,hr,_=>by
  simp only [RelL] at hr
  subst hr
  exact ⟨by simpa [putPs] using hF,by simpa [putPs] using ht⟩
 | p::ps,v::args,vals,F,tmps,hF,ht,hq,hr,hc=>by
  simp only [RelL] at hr
  obtain ⟨u,us,rfl,hu,hus⟩:=hr
  have hcv:=hc v List.mem_cons_self
  have h1:FrRel P T g w nt (put F p v) (tmps.setIfInBounds p u):=FrRel.put (a:={ tmps:=tmps,defers:=[] }) (d:=some p) (v:=v) (x:=u) hF.size hF.past (by simpa [inNt] using hq p List.mem_cons_self) (fun t y _ hy=>hF.tmp t y hy) (fun t _=>TmpAt.calm hcv hu)
  have h2:∀ t,tame (put F p v t)=true:=tame_putO (d:=some p) ht (tame_of_calm hcv)
  simp only [putPs,List.zip_cons_cons,List.foldl_cons]
  exact fr_puts h1 h2 (fun q hq'=>hq q (List.mem_cons_of_mem _ hq')) hus (fun w hw=>hc w (List.mem_cons_of_mem _ hw))
theorem lpAt_turn {l:Nat} {p:Lp} (h:LpAt P g w l p) {rc rc':Loop} (hh:w.heap[g.lp l]?=some (.loop rc)) (j:Option Ex) (h1:rc'.fn=rc.fn∧rc'.tmps=rc.tmps∧rc'.params=rc.params∧rc'.assign=rc.assign∧rc'.body=rc.body)
  (hj:match j with
   | none=>rc'.state=.ready∧rc'.pending=none
   | some .nrm=>rc'.state=.busy∧rc'.pending=none
   | some .ret=>rc'.state=.done∧rc'.pending=some .ret
   | some (.exit id)=>rc'.state=.done∧rc'.pending=some (.exit id)
   | _=>False):LpAt P g (w.putObj (g.lp l) (.loop rc')) l { p with jump:=j }:=by
 obtain ⟨hu,r,hr,hp,hc,hrg,hq,hn,hf,_⟩:=h
 rw [hh] at hr
 simp only [Option.some.injEq,Obj.loop.injEq] at hr
 subst hr
 obtain ⟨e0,e1,e2,e3,e4⟩:=h1
 have hlt:=(Array.getElem?_eq_some_iff.1 hh).1
 exact ⟨hu,rc',World.putObj_heap_same hlt,by rw [e2]; exact hp,by rw [e1,e3,e4]; exact hc,hrg,by rw [e1]; exact hq,by rw [e1]; exact hn,by rw [e1]; exact hf,hj⟩
theorem inv_setLp (I:Inv P T g w) {l:Nat} {p p':Lp} (hp:getLp T l=some p) {o:Obj} (hnew:LpAt P g (w.putObj (g.lp l) o) l p'):Same (·=.loop l) g w g (w.putObj (g.lp l) o)∧Inv P (setLp T l (some p')) g (w.putObj (g.lp l) o):=by
 have hu:=(I.L l p hp).1
 have hlt:=getLp_lt hp
 have hsame:Same (·=.loop l) g w g (w.putObj (g.lp l) o):=⟨rfl,rfl,rfl,by simp,fun b hb hub=>⟨World.putObj_heap_other (fun e=>hub (by rw [e]; exact hu)),rfl,fun _=>rfl⟩⟩
 refine ⟨hsame,⟨I.K,fun b oo v hv=>?_,fun b hb=>I.U b (by simpa using hb),fun l' i cs hc=>?_,fun l' q hq=>?_,fun l' i hl hn=>?_⟩⟩
 ·obtain ⟨h1,h2⟩:=I.G b oo v hv
  refine ⟨?_,h2⟩
  rw [cell?_eq (hsame.old b (G_lt I hv) (fun e=>by rw [e] at h2; simp at h2)).1]
  exact h1
 ·rw [getBox_setLp] at hc
  exact (I.B l' i cs hc).same I hsame (Le.refl _ _) (by simp) (by simp)
 ·rw [getLp_setLp hlt] at hq
  split at hq
  ·rename_i e
   subst e
   injection hq with hq; subst hq
   exact hnew
  ·rename_i e
   exact (I.L l' q hq).same hsame (Le.refl _ _) ⟨rfl,(I.L l' q hq).1⟩ (by simpa using e)
 ·rw [length_setLp] at hl
  rw [lenAt_setLp] at hn
  exact I.N l' i hl hn
theorem getLp_push {L:Lev} {R:St} {l:Nat} (h:l < R.length):getLp (L::R) l=getLp R l:=by
 simp only [getLp]; rw [if_neg (by omega)]
theorem flat_setLp {L:Lev} {R:St} {l:Nat} (p:Option Lp) (h:l < R.length):setLp (L::R) l p=L::setLp R l p:=by
 simp only [setLp]; rw [if_neg (by omega)]
theorem fold_zip (ps:Array Nat) (vals:List Value) (tmps:Array Value):(ps.zip ⟨vals⟩).foldl (fun tmps (x:Nat×Value)=>tmps.setIfInBounds x.1 x.2) tmps=(ps.toList.zip vals).foldl (fun tmps (x:Nat×Value)=>tmps.setIfInBounds x.1 x.2) tmps:=by
 rw [← Array.foldl_toList]
 simp
theorem yield_ok {meth:Nat→String→Option Nat} (hM:MethOk P meth) (hE:CallOk P cE) (hmix:P.follows .mixedOrders=true) {k:Nat} {l:Nat} {args:List V} {out:Out} {T':St} {F:Fr} {ps:List Nat} {asg body:ACode} (hlp:getLp T l=some ⟨F,ps,asg,body,none⟩) (hlen:args.length=ps.length)
  {F1:Fr} {S1:St} (h1:codeN meth cE k asg (putPs F ps args) (⟨[],none⟩::T)=some (.nrm,F1,S1)) {F2:Fr} {ps2:List Nat} {asg2 body2:ACode} (h2:getLp S1 l=some ⟨F2,ps2,asg2,body2,none⟩)
  (h3:endRound l (codeN meth cE k body F1 (setLp S1 l (some ⟨F2,ps2,asg2,body2,some .nrm⟩)))=some (out,T')) {vals:List Value} (I:Inv P T g w) (hc:Clean T.length g) (hr:RelL g (T.length+1) args vals) (hcalm:∀ v∈args,isCalm v=true) :
  ∃ r:Loop,w.heap[g.lp l]?=some (.loop r)∧vals.length=r.params.size∧RoundIn Fence.wide 0 P (g.lp l) r.fn ((r.params.zip ⟨vals⟩).foldl (fun tmps (t,a)=>tmps.setIfInBounds t a) r.tmps) r.assign r.body w (OutPost P T g w T' out):=by
 have hll:=getLp_lt hlp
 obtain ⟨hu,r,hh,hps,⟨rs,hc1,hc2⟩,⟨hn1,hn2⟩,hq,hpast,hfr,hst,hpd⟩:=I.L l _ hlp
 refine ⟨r,hh,?_,?_⟩
 ·have e1:=relL_length hr
  have e2:r.params.size=ps.length:=by rw [← Array.length_toList,hps]
  omega
 refine roundIn_of_wpIn trivial ?_
 have I1:=inv_enter I hc
 have hF0:FrRel P (⟨[],none⟩::T) g w r.tmps.size F r.tmps:=⟨rfl,hpast,fun t x hx=>TmpAt.calm (hfr t x hx).1 (rel_mono (Le.refl _ g) (by simp; omega) _ _ (hfr t x hx).2)⟩
 have ht0:∀ t,tame (F t)=true:=fun t=>by
  rcases Nat.lt_or_ge t r.tmps.size with h | h
  ·exact tame_of_calm (hfr t _ (Array.getElem?_eq_getElem h)).1
  ·have:=hpast t h
   simp only at this
   rw [this]; rfl
 obtain ⟨hF1,ht1⟩:=fr_puts (ps:=ps) hF0 ht0 hq hr hcalm
 have hfold:(r.params.zip ⟨vals⟩).foldl (fun tmps (t,a)=>tmps.setIfInBounds t a) r.tmps=(ps.zip vals).foldl (fun tmps (x:Nat×Value)=>tmps.setIfInBounds x.1 x.2) r.tmps:=by
  have:=fold_zip r.params vals r.tmps
  rw [hps] at this
  exact this
 rw [hfold]
 show r.assign.wpIn (fen (some (g.lp l))) 0 P _ _ w
 refine codeN_ok (ro:=some (g.lp l)) hM hE hmix k hc1 (.inl hn1) h1 I1 hF1 ht1 trivial ⟨fun F' T2 e g1 w1 a1 hs=>?_,fun F' T2 e=>(by cases e),fun id F' T2 e=>(by cases e),fun v F' T2 e=>(by cases e)⟩
 cases e
 obtain ⟨bsS,RS,hS1⟩:=hs.flat.pos
 subst hS1
 have hRS:RS.length=T.length:=by simpa using hs.len
 have hle1:Le (T.length+1) g g1:=hs.le
 obtain ⟨e1,e2⟩:=hle1.lp l (by omega) hu
 have hlS:l < RS.length:=by omega
 obtain ⟨_,r1,hh1,_,_,_,_,_,_,hst1,hpd1⟩:=hs.inv.L l _ h2
 have hLp1:=hs.inv.L l _ h2
 rw [e1] at hh1
 have hturn:=lpAt_turn (rc:=r1) (rc':={ r1 with state:=.busy }) hLp1 (by rw [e1]; exact hh1) (some .nrm) ⟨rfl,rfl,rfl,rfl,rfl⟩ ⟨rfl,hpd1⟩
 obtain ⟨hsame2,I2⟩:=inv_setLp hs.inv h2 hturn
 rw [e1] at hsame2 I2
 simp only at I2
 refine ⟨_,run_beginRound hh1 hst1,?_⟩
 obtain ⟨w2,hw2⟩:∃ w2,w2=w1.putObj (g.lp l) (.loop { r1 with state:=.busy }):=⟨_,rfl⟩
 rw [← hw2] at hsame2 I2 ⊢
 rw [flat_setLp _ hlS] at h3 I2
 have hF2:FrRel P (⟨bsS,none⟩::setLp RS l (some ⟨F2,ps2,asg2,body2,some .nrm⟩)) g1 w2 r.tmps.size F1 a1.tmps:=⟨hs.fr.size,hs.fr.past,fun t x hx=>(hs.fr.tmp t x hx).same hs.inv hsame2 (Le.refl _ _) (by simp [length_setLp]) (by simp) (.inl (not_mir (hs.tame t)))⟩
 have hfrm2:Frm g w g1 w2:=hs.frm.trans (hsame2.frm (by simp))
 cases hcode:codeN meth cE k body F1 (⟨bsS,none⟩::setLp RS l (some ⟨F2,ps2,asg2,body2,some .nrm⟩)) with
 | none=>rw [hcode] at h3; simp [endRound] at h3
 | some res =>
  rw [hcode] at h3
  show r.body.wpIn (fen (some (g.lp l))) 0 P _ _ w2
  -- the end of the round,however the body was left
  have fin:∀ (ex:Ex) (jump:Option Code) (F3:Fr) (T3:St),(ex=.nrm∧jump=none∨ex=.ret∧jump=some .ret∨∃ id,ex=.exit id∧jump=some (.exit id))→endRound l (some (ex,F3,T3))=some (out,T')→∀ g3 w3 a3,CodeTo P (⟨bsS,none⟩::setLp RS l (some ⟨F2,ps2,asg2,body2,some .nrm⟩)) g1 w2 a1 r.tmps.size T3 F3 g3 w3 a3 →
    ∃ v w',(Instr.endRound (g.lp l) jump).run P w3=.ok v w'∧OutPost P T g w T' out (.returned v) w':=by
   intro ex jump F3 T3 hex hend g3 w3 a3 hs3
   obtain ⟨bs3,R3,hT3⟩:=hs3.flat.pos
   subst hT3
   have hR3:R3.length=T.length:=by have:=hs3.len; simp [length_setLp] at this; omega
   have hle3:Le (T.length+1) g1 g3:=by
    have:=hs3.le
    simpa [length_setLp,hRS] using this
   have hle:Le (T.length+1) g g3:=hle1.trans hle3
   obtain ⟨k1,k2⟩:=hle.lp l (by omega) hu
   simp only [AM.endRound] at hend
   split at hend<;>try (cases hend; done)
   rename_i F4 ps4 asg4 body4 hlp4
   have hl3:l < R3.length:=by omega
   have I3:=inv_pop hs3.inv
   have hLp3:=I3.L l _ hlp4
   obtain ⟨_,r3,hh3,_,_,_,_,_,_,hst3,hpd3⟩:=I3.L l _ hlp4
   rw [k1] at hh3
   refine ⟨.bool jump.isNone,_,run_endRound jump hh3,?_⟩
   have fin2:∀ (j:Option Ex) (b:Bool),jump.isNone=b→out=.ret (.bool b)→T'=setLp R3 l (some ⟨F4,ps4,asg4,body4,j⟩) →
     (match j with
      | none=>(if jump.isNone=true then LoopState.ready else .done)=.ready∧jump=none
      | some .nrm=>(if jump.isNone=true then LoopState.ready else .done)=.busy∧jump=none
      | some .ret=>(if jump.isNone=true then LoopState.ready else .done)=.done∧jump=some .ret
      | some (.exit id)=>(if jump.isNone=true then LoopState.ready else .done)=.done∧jump=some (.exit id)
      | _=>False)→OutPost P T g w T' out (.returned (.bool jump.isNone)) (w3.putObj (g.lp l) (.loop { r3 with state:=if jump.isNone then .ready else .done,pending:=jump })):=by
    intro j b hb ho hT' hj
    subst ho hT'
    have hturn3:=lpAt_turn (rc:=r3) (rc':={ r3 with state:=if jump.isNone then .ready else .done,pending:=jump }) hLp3 (by rw [k1]; exact hh3) j ⟨rfl,rfl,rfl,rfl,rfl⟩ hj
    obtain ⟨hsame4,I4⟩:=inv_setLp I3 hlp4 hturn3
    rw [k1] at hsame4 I4
    refine ⟨g3, .bool jump.isNone,rfl,⟨hle.less (Nat.le_succ _),fun l' hl' hu'=>hle.lp l' (by omega) hu',(hfrm2.trans hs3.frm).trans (hsame4.frm (by simp))⟩,I4,by rw [length_setLp]; exact hR3,by simp only [Rel]; rw [hb],rfl,fun e xs h=>by cases h⟩
   rcases hex with ⟨rfl,rfl⟩ | ⟨rfl,rfl⟩ | ⟨id,rfl,rfl⟩
   ·simp only [Option.some.injEq,Prod.mk.injEq] at hend
    exact fin2 none true rfl hend.1.symm hend.2.symm ⟨rfl,rfl⟩
   ·simp only [Option.some.injEq,Prod.mk.injEq] at hend
    exact fin2 (some .ret) false rfl hend.1.symm hend.2.symm ⟨rfl,rfl⟩
   ·simp only [Option.some.injEq,Prod.mk.injEq] at hend
    exact fin2 (some (.exit id)) false rfl hend.1.symm hend.2.symm ⟨rfl,rfl⟩
  refine codeN_ok (ro:=some (g.lp l)) hM hE hmix k hc2 (.inl hn2) hcode I2 hF2 hs.tame trivial ⟨fun F3 T3 e g3 w3 a3 hs3=>?_,fun F3 T3 e g3 w3 a3 hs3=>?_,fun id F3 T3 e g3 w3 a3 hs3=>?_,fun v F3 T3 e g3 w3 x a3 hp=>?_⟩
  ·subst e
   exact fin .nrm none F3 T3 (.inl ⟨rfl,rfl⟩) h3 g3 w3 a3 hs3
  ·subst e
   exact fin .ret (some .ret) F3 T3 (.inr (.inl ⟨rfl,rfl⟩)) h3 g3 w3 a3 hs3
  ·subst e
   exact fin (.exit id) (some (.exit id)) F3 T3 (.inr (.inr ⟨id,rfl,rfl⟩)) h3 g3 w3 a3 hs3
  ·subst e
   exfalso
   cases T3 with
   | nil=>simp [AM.endRound] at h3
   | cons L R =>
    simp only [AM.endRound] at h3
    split at h3<;>cases h3
structure EnvOk (P:Program) (E:Env):Prop where
 mix:P.follows .mixedOrders=true
 fn:∀ f af,E.fn f=some af→∃ esc,compF P esc f=some af
 meth:MethOk P E.meth
 ext:∀ f h,E.ext f=some h→∀ cE,CallOk P cE→∀ (args:List V) (T:St) (out:Out) (T':St),h cE args T=some (out,T')→∀ (g:Gh) (w:World) (vals:List Value),Inv P T g w→Clean T.length g→RelL g (T.length+1) args vals→(∀ v∈args,isCalm v=true) →
  Enters P f∧CallsIn Fence.wide 0 P f ⟨vals⟩ w (OutPost P T g w T' out)
theorem callBody_ok {E:Env} (hEnv:EnvOk P E) (hE:CallOk P cE) (k:Nat):CallOk P (callBody E cE k):=by
 intro c args T out T' hv g w vals I hc hr hcalm
 cases c with
 | fn f =>
  simp only [callBody] at hv
  split at hv
  ·rename_i h hext
   exact hEnv.ext f h hext cE hE args T out T' hv g w vals I hc hr hcalm
  ·split at hv
   ·cases hv
   ·rename_i af haf
    split at hv<;>try (cases hv; done)
    rename_i hlen
    obtain ⟨esc,hcf⟩:=hEnv.fn f af haf
    exact fn_ok hEnv.meth hE hEnv.mix hcf hlen hv I hc hr hcalm
 | yield l =>
  intro hl hu
  simp only [callBody] at hv
  split at hv<;>try (cases hv; done)
  rename_i F ps asg body hlp
  split at hv<;>try (cases hv; done)
  rename_i hlen
  split at hv<;>try (cases hv; done)
  rename_i F1 S1 h1
  split at hv<;>try (cases hv; done)
  rename_i F2 ps2 asg2 body2 h2
  exact yield_ok hEnv.meth hE hEnv.mix hlp hlen h1 h2 hv I hc hr hcalm
theorem callN_ok {E:Env} (hEnv:EnvOk P E):∀ k,CallOk P (callN E k)
 | 0=>fun c args T out T' hv=>by simp [callN] at hv
 | k+1=>callBody_ok hEnv (callN_ok hEnv k) k
end
end AM
end Go.Proofs.Ytimfbnojmdnlnaa
end
section
namespace Go.Proofs.Ytimfbnojmdnlnaa
namespace AM
def oneBox (T:Lev) (i:Nat):Option V:=match T.bs[i]? with | some [v]=>if low 0 v=true then some (strip v) else none | _=>none
def guardH (meth:Nat→String→Option Nat) (np:Nat) (pre post:ACode) (b m ty:Nat):CE→List V→St→Option (Out×St):=fun cE args S =>
 if args.length=np then
  match codeN meth cE 60 pre (args0 args) (⟨[],none⟩::S) with
  | some (.nrm,F1,S1) =>
   (match codeN meth cE 60 post (put F1 m .undef) S1 with
   | some (.ret,F2,T::R) =>
    (match F1 b,F2 b with
    | .ptr l i 0, .ptr l' i' 0=>if l=S.length∧l'=l∧i'=i then (oneBox T i).map fun v=>(.ret v,R) else none
    | _,_=>none)
   | some (.pan (.ifc t (.agg [])),F2,T::R) =>
    (match F1 b,F2 b with
    | .ptr l i 0, .ptr l' i' 0=>if l=S.length∧l'=l∧i'=i∧t=ty then (oneBox T i).map fun v=>(.ret (.int .i64 1),R) else none
    | _,_=>none)
   | _=>none)
  | _=>none
 else none
section
variable {P:Program} {T:St} {g:Gh} {w:World} {cE:CE}
theorem inv_other (I:Inv P T g w) {L i:Nat} (hL:T.length≤L) {w':World} (h:Same (·=.box L i) g w g w'):Inv P T g w':={
 K:=I.K
 G b o v hv:=by
  obtain ⟨h1,h2⟩:=I.G b o v hv
  refine ⟨?_,h2⟩
  rw [cell?_eq (h.old b (G_lt I hv) (fun e=>by rw [e] at h2; simp at h2)).1]
  exact h1
 U b hb:=I.U b (Nat.le_trans h.size hb)
 B l j cs hc:=(I.B l j cs hc).same I h (Le.refl _ _) (by have:=getBox_lt hc; simp; omega) (by simp)
 L l p hp:=(I.L l p hp).same h (Le.refl _ _) ⟨rfl,(I.L l p hp).1⟩ (by simp)
 N:=I.N }
structure Guarded (w w':World) (blk t0:Nat) (ex:List Value):Prop where
 os:w'.os=w.os
 tape:w'.tape=w.tape
 output:w'.output=w.output
 size:w.heap.size≤w'.heap.size
 new:w'.heap[blk]?=some (.cells ⟨.int .i64 1::ex⟩ t0 (0,0))
 old:∀ k,k < w.heap.size→k≠blk→w'.heap[k]?=w.heap[k]?
structure GuardFn (P:Program) (gf ty:Nat):Prop where
 enters:Enters P gf
 ret:∀ (w:World) (x:Value),CallsDIn Fence.wide 0 P gf #[x] .returning w fun e u' w'=>(∃ v,e=.returned v)∧Go.settle u'=.returning∧w'=w
 pan:∀ (w:World) (blk t0:Nat) (old:Value) (ex:List Value),w.heap[blk]?=some (.cells ⟨old::ex⟩ t0 (0,0))→CallsDIn Fence.wide 0 P gf #[.pointer (some ⟨blk,0,none⟩)] (.panicking [{ v:=.iface ty (.agg #[]),recovered:=false }]) w fun e u' w' =>
  (∃ v,e=.returned v)∧Go.settle u'=.returning∧Guarded w w' blk t0 ex
theorem res_run {fn:Func} {tmps:Array Value} {b rt blk:Nat} {v:Value} (hres:fn.results=#[.cell b rt]) (hrg:aggOf P rt=some false) (hp:tmps.getD b undef=.pointer (some ⟨blk,0,none⟩)) (hc:w.cell? ⟨blk,0,none⟩=some v):(Go.results fn tmps).run P w=.ok v w:=by
 have h1:(resSem tmps (.cell b rt)).run P w=.ok v w:=by
  simp only [resSem,hp,asAddr,Sem.run_bind,Sem.run_pure,Result.andThen_ok]
  simp [loadVar,run_isAgg hrg,hc]
 rw [results_eq,Array.mapM_eq_mapM_toList,hres]
 simp [h1]
theorem box_res {L:Lev} {R:St} (I:Inv P (L::R) g w) {i:Nat} {v:V} (h:oneBox L i=some v):∃ x t0 v0 ex,w.heap[g.bx R.length i]?=some (.cells ⟨x::ex⟩ t0 (0,0))∧g.use (g.bx R.length i)=.box R.length i∧v=strip v0∧low 0 v0=true∧Rel g 0 v0 x:=by
 unfold oneBox at h
 split at h<;>try (cases h; done)
 rename_i v0 hb
 split at h<;>try (cases h; done)
 rename_i hlow
 injection h with h
 obtain ⟨hu,vs,e,ex,hh,hi,hr,_⟩:=I.B R.length i [v0] (by simp only [getBox,if_true,hb]; rfl)
 simp only [RelL] at hr
 obtain ⟨x,us,rfl,hx,rfl⟩:=hr
 exact ⟨x,e,v0,ex,hh,hu,h.symm,hlow,rel_low _ _ hlow hx⟩
theorem guard_ok {meth:Nat→String→Option Nat} (hM:MethOk P meth) (hE:CallOk P cE) (hmix:P.follows .mixedOrders=true) {f gf np b m ty rt id:Nat} {fn:Func} {x y:Code} {ops:Array Oper} {om od:Oper} {rs1 rs2:List Nat} {pre post:ACode} {ts:Array TypeId}
  (hf : P.funcs[f]? = some fn) (hname : fn.name ≠ "runtime.NumGoroutine") (hbody : fn.body = some (.seq x (.seq (.region id ops false) y)))
  (hx:compC P fn.ntmps rs1 x=some pre) (hy:compC P fn.ntmps rs2 y=some post) (hops:ops=#[om,od]) (hom:om.op=.makeFunc (.func gf) #[] #[.tmp b]∧om.dst=some m∧om.guard=none)
  (hod:od.op=.defer { callee:=.value (.tmp m),args:=#[],argTypes:=ts }∧od.dst=none∧od.guard=none) (hm:m < fn.ntmps) (hmb:m≠b) (hnp:np≤fn.ntmps) (hres:fn.results=#[.cell b rt]) (hrt:szOf P rt=some 1) (hrg:aggOf P rt=some false)
  (hgf:GuardFn P gf ty) {args:List V} {out:Out} {T':St} (hv:guardH meth np pre post b m ty cE args T=some (out,T')) {vals:List Value} (I:Inv P T g w) (hc:Clean T.length g) (hr:RelL g (T.length+1) args vals) (hcalm:∀ v∈args,isCalm v=true) :
  Enters P f∧CallsIn Fence.wide 0 P f ⟨vals⟩ w (OutPost P T g w T' out):=by
 unfold guardH at hv
 split at hv<;>try (cases hv; done)
 rename_i hargs
 split at hv<;>try (cases hv; done)
 rename_i F1 S1 hpre
 refine ⟨⟨fn,hf,hname,by rw [hbody]; rfl⟩,callsIn_of_wp_marks hf hbody trivial ?_⟩
 obtain ⟨hF,htm⟩:=fr_enter (P:=P) (w:=w) (np:=np) hr hcalm (by rw [hargs]; exact hnp)
 have I1:=inv_enter I hc
 refine wpIn_seq ?_
 refine codeN_ok (ro:=none) hM hE hmix 60 hx (.inr rfl) hpre I1 hF htm trivial ⟨fun F' T2 e g1 w1 a1 hs=>?_,fun F' T2 e=>(by cases e),fun id F' T2 e=>(by cases e),fun v F' T2 e=>(by cases e)⟩
 cases e
 refine wpIn_seq (wpIn_region ?_)
 subst hops
 obtain ⟨ho1,ho2,ho3⟩:=hom
 obtain ⟨hd1,hd2,hd3⟩:=hod
 -- the closure is made and put off
 let ptr:Value:=a1.eval (.tmp b)
 let d:Deferred:={ target:=.fn (.func gf) #[ptr],args:=#[] }
 have hev:(a1.put (some m) (.func (.func gf) #[] #[ptr])).eval (.tmp m)=.func (.func gf) #[] #[ptr]:=by
  have hlt:m < a1.tmps.size:=by rw [hs.fr.size]; exact hm
  simp [Act.put,Act.eval,hlt]
 have hstep:wpOpsIn (fen none) 0 P #[om,od] (Exit.then (y.wpIn Fence.wide 0 P (bodyPostM Fence.wide 0 P fn (OutPost P T g w T' out))) (bodyPostM Fence.wide 0 P fn (OutPost P T g w T' out))) (List.range 2) a1 w1:=by
  have hl:List.range 2=[0,1]:=rfl
  rw [hl,wpOpsIn_cons]
  unfold wpOpIn
  have h0:(#[om,od]:Array Oper)[0]?=some om:=rfl
  have h1:(#[om,od]:Array Oper)[1]?=some od:=rfl
  simp only [h0]
  have hw0:Region.wanted om (yielded #[om,od] a1.tmps)=true:=by simp [Region.wanted,ho3]
  rw [if_pos hw0]
  refine go_value (x:=.func (.func gf) #[] #[ptr]) (w':=w1) (by rw [ho1]; simp) (by simp [execOp,ho1,Instr.makeFunc,ptr]) ?_
  rw [wpOpsIn_cons]
  unfold wpOpIn
  simp only [h1]
  have hw1:Region.wanted od (yielded #[om,od] (a1.put om.dst (.func (.func gf) #[] #[ptr])).tmps)=true:=by simp [Region.wanted,hd3]
  rw [if_pos hw1]
  refine ⟨fun _ _=>trivial,?_⟩
  have hrun:((od.semAt (fen none).round (a1.put om.dst (.func (.func gf) #[] #[ptr])).eval)).run P w1=.ok (.defer d) w1:=by
   show (execOp _ od).run P w1=_
   rw [ho2]
   simp [execOp,hd1,resolve,hev,Deferred.ofValue,d]
  rw [hrun,Oper.uponIn_defer]
  simp only [wpOpsIn,hd2,ho2]
  show y.wpIn (fen none) 0 P (bodyPostM Fence.wide 0 P fn (OutPost P T g w T' out)) _ w1
  obtain ⟨bs1,hdf1,hmk1⟩:=hs.defs
  rw [List.append_nil] at hdf1
  have htu:∀ t,tame (put F1 m .undef t)=true:=tame_putO (d:=some m) hs.tame rfl
  have hFu:FrRel P S1 g1 w1 fn.ntmps (put F1 m .undef) (a1.put (some m) (.func (.func gf) #[] #[ptr])).tmps :=
   FrRel.put (d:=some m) hs.fr.size hs.fr.past (by simpa [inNt] using hm) (fun t y _ hy=>hs.fr.tmp t y hy) (fun t _=>TmpAt.calm rfl (by simp [Rel]))
  have hS1:S1.length=T.length+1:=by simpa using hs.len
  have hleg:Le (T.length+1) g g1:=hs.le
  -- what the closure was handed
  have hptr:∀ l i,F1 b=.ptr l i 0→l < T.length+1∧(∃ p,g1.al l i=some p)∧ptr=.pointer (some ⟨g1.bx l i,0,none⟩):=fun l i h=>by
   have:=rel_tmp hs.fr b
   rw [h] at this
   simp only [Rel] at this
   rw [hS1] at this
   exact this
  have hinv1:(invoke d.target d.args).run P w1=.ok (.enter gf #[ptr]) w1∨True:=.inr trivial
  have hinvk:∀ w',(invoke (.fn (.func gf) #[ptr]) #[]).run P w'=.ok (.enter gf #[ptr]) w':=fun w'=>by
   simp [invoke,run_callFunc hgf.enters]
  cases hpost:codeN meth cE 60 post (put F1 m .undef) S1 with
  | none=>rw [hpost] at hv; cases hv
  | some res =>
   rw [hpost] at hv
   refine codeN_ok (ro:=none) hM hE hmix 60 hy (.inr rfl) hpost hs.inv hFu htu hs.flat ⟨fun F2 T2 e=>(by subst e; simp at hv),fun F2 T2 e g3 w3 a3 hs3=>?_,fun id F2 T2 e=>(by subst e; simp at hv),fun v F2 T2 e g3 w3 x3 a3 hp3=>?_⟩
   ·subst e
    obtain ⟨bs3,hdf3,hmk3⟩:=hs3.defs
    obtain ⟨bsT,R,hT2⟩:=hs3.flat.pos
    subst hT2
    have hRl:R.length=T.length:=by have:=hs3.len; simp at this; omega
    simp only at hv
    split at hv<;>try (cases hv; done)
    rename_i l i l' i' hF1b hF2b
    split at hv<;>try (cases hv; done)
    rename_i hll
    obtain ⟨hl0,hl1,hl2⟩:=hll
    subst hl1; subst hl2
    obtain ⟨v0,hv0,hout⟩:=Option.map_eq_some_iff.1 hv
    simp only [Prod.mk.injEq] at hout
    obtain ⟨rfl,rfl⟩:=hout
    show LeavesInM Fence.wide 0 P fn a3.tmps _ a3.defers .returning w3
    rw [hdf3]
    show LeavesInM Fence.wide 0 P fn a3.tmps _ (bs3.map mk++(d::a1.defers)) .returning w3
    rw [hdf1]
    refine leaves_marks' (by simp) hmk3 fun w4 hsame4 hsz4 hk4=>?_
    simp only [LeavesInM]
    refine ⟨by simp, .inr ⟨fun h=>by simp [Fence.wide] at h, .func gf, #[ptr],gf, #[ptr],rfl,hinvk w4,fun _ _=>trivial,?_⟩⟩
    refine CallsDIn.mono (hgf.ret w4 ptr) fun e u' w5 he=>?_
    obtain ⟨⟨v5,rfl⟩,hu5,rfl⟩:=he
    show LeavesInM Fence.wide 0 P fn a3.tmps _ (bs1.map mk) (Go.settle u') w5
    rw [hu5]
    have hmk5:Marks w.heap.size g3 w5 bs1:=⟨hmk1.1,fun c hc=>by
     obtain ⟨k1,k2,k3,k4⟩:=hmk1.2 c hc
     obtain ⟨k5,k6⟩:=hs3.marks c k2 k3
     have hn3:c ∉ bs3:=fun h=>by have:=(hmk3.2 c h).1; omega
     exact ⟨k1,by rw [hsz4]; exact Nat.lt_of_lt_of_le k2 hs3.frm.size,k5,(hk4 c hn3).trans (k6.trans k4)⟩⟩
    refine leaves_marks (by simp) hmk5 fun w6 hsame6=>?_
    have I6:=inv_marks (inv_marks hs3.inv hsame4) hsame6
    obtain ⟨x,t0,u0,ex,hh,hub,rfl,hlow,hrel⟩:=box_res I6 hv0
    have hpp:=rel_tmp hs3.fr b
    rw [hF2b] at hpp
    simp only [Rel] at hpp
    have hll:l'=R.length:=by omega
    subst hll
    refine ⟨x,res_run hres hrg hpp.2.2 (by simp [World.cell?,hh]),g3,x,rfl,⟨(hleg.trans (by have:=hs3.le; rwa [hS1] at this)).less (Nat.le_succ _),fun l' hl' hu'=>(hleg.trans (by have:=hs3.le; rwa [hS1] at this)).lp l' (by omega) hu',((hs.frm.trans hs3.frm).trans (hsame4.frm (by simp))).trans (hsame6.frm (by simp))⟩,inv_pop I6,hRl,rel_strip (rel_mono (Le.refl 0 g3) (Nat.zero_le _) _ _ hrel),tame_strip (tame_low hlow),fun e xs h=>absurd h strip_own⟩
   ·subst e
    obtain ⟨bs3,hdf3,hmk3⟩:=hp3.defs
    have hle3:Le (T.length+1) g1 g3:=by have:=hp3.pan.le; rwa [hS1] at this
    split at hv<;>try (cases hv; done)
    ·rename_i heq
     simp at heq
    rename_i t F2' L2 R heq
    simp only [Option.some.injEq,Prod.mk.injEq,Ex.pan.injEq] at heq
    obtain ⟨rfl,rfl,rfl⟩:=heq
    have hRl:R.length=T.length:=by have:=hp3.pan.len; simp at this; omega
    split at hv<;>try (cases hv; done)
    rename_i l i l' i' hF1b hF2b
    split at hv<;>try (cases hv; done)
    rename_i hll
    obtain ⟨hl0,hl1,hl2,ht⟩:=hll
    subst hl1; subst hl2; subst ht
    obtain ⟨v0,hv0,hout⟩:=Option.map_eq_some_iff.1 hv
    simp only [Prod.mk.injEq] at hout
    obtain ⟨rfl,rfl⟩:=hout
    have hx3:x3=.iface t (.agg #[]):=by
     have:=hp3.pan.rel
     simp only [Rel,RelL] at this
     obtain ⟨y,rfl,vs,rfl,_,rfl⟩:=this
     rfl
    subst hx3
    have hll:l'=R.length:=by omega
    subst hll
    obtain ⟨hp1,⟨pp,hp2⟩,hp3'⟩:=hptr _ _ hF1b
    obtain ⟨e1,e2⟩:=hle3.bx _ _ pp hp1 hp2
    show LeavesInM Fence.wide 0 P fn a3.tmps _ a3.defers (.panicking _) w3
    rw [hdf3]
    show LeavesInM Fence.wide 0 P fn a3.tmps _ (bs3.map mk++(d::a1.defers)) (.panicking _) w3
    rw [hdf1]
    refine leaves_marks' (by simp) hmk3 fun w4 hsame4 hsz4 hk4=>?_
    have I4:=inv_marks hp3.pan.inv hsame4
    obtain ⟨x,t0,u0,ex,hh,hub,_,_,_⟩:=box_res I4 hv0
    simp only [LeavesInM]
    refine ⟨by simp, .inr ⟨fun h=>by simp [Fence.wide] at h, .func gf, #[ptr],gf, #[ptr],rfl,hinvk w4,fun _ _=>trivial,?_⟩⟩
    have hpp:ptr=.pointer (some ⟨g3.bx R.length i',0,none⟩):=by rw [hp3',e1]
    rw [hpp]
    refine CallsDIn.mono (hgf.pan w4 _ t0 x ex hh) fun e u' w5 he=>?_
    obtain ⟨⟨v5,rfl⟩,hu5,hgd⟩:=he
    show LeavesInM Fence.wide 0 P fn a3.tmps _ (bs1.map mk) (Go.settle u') w5
    rw [hu5]
    have hsame5:Same (·=.box R.length i') g3 w4 g3 w5:=⟨hgd.os,hgd.tape,hgd.output,hgd.size,fun k hk hku=>⟨hgd.old k hk (fun e=>hku (by rw [e]; exact hub)),rfl,fun _=>rfl⟩⟩
    have hmk5:Marks w.heap.size g3 w5 bs1:=⟨hmk1.1,fun c hc=>by
     obtain ⟨k1,k2,k3,k4⟩:=hmk1.2 c hc
     obtain ⟨k5,k6⟩:=hp3.pan.marks c k2 k3
     have hn3:c ∉ bs3:=fun h=>by have:=(hmk3.2 c h).1; omega
     have hc4:c < w4.heap.size:=by rw [hsz4]; exact Nat.lt_of_lt_of_le k2 hp3.pan.frm.size
     have hcb:c≠g3.bx R.length i':=fun e=>by rw [e,hub] at k5; cases k5
     exact ⟨k1,Nat.lt_of_lt_of_le hc4 hgd.size,k5,(hgd.old c hc4 hcb).trans ((hk4 c hn3).trans (k6.trans k4))⟩⟩
    refine leaves_marks (by simp) hmk5 fun w6 hsame6=>?_
    have I6:=inv_marks (inv_other (inv_pop I4) (Nat.le_refl _) hsame5) hsame6
    have hb6:w6.heap[g3.bx R.length i']?=some (.cells ⟨.int .i64 1::ex⟩ t0 (0,0)):=by
     rw [(hsame6.old _ (Array.getElem?_eq_some_iff.1 hgd.new).1 (by rw [hub]; simp)).1]
     exact hgd.new
    have hpt:=rel_tmp hp3.pan.fr b
    rw [hF2b] at hpt
    simp only [Rel] at hpt
    have hle:=hleg.trans hle3
    exact ⟨.int .i64 1,res_run hres hrg hpt.2.2 (by simp [World.cell?,hb6]),g3, .int .i64 1,rfl,⟨hle.less (Nat.le_succ _),fun l' hl' hu'=>hle.lp l' (by omega) hu',(((hs.frm.trans hp3.pan.frm).trans (hsame4.frm (by simp))).trans (hsame5.frm (by simp))).trans (hsame6.frm (by simp))⟩,I6,hRl,by simp [Rel],rfl,fun e xs h=>by cases h⟩
 exact hstep
end
end AM
end Go.Proofs.Ytimfbnojmdnlnaa
end
