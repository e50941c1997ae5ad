/- Events replayed: what an execution's events say of its memory and its instances. -/
import Derived.Test.YtimfbnojmdnlnaaKM46
set_option linter.all false
set_option maxRecDepth 100000
namespace Go.Proofs.Ytimfbnojmdnlnaa
namespace AM
namespace Wp
namespace Y
def OkEv (m:List (List Int)) (e:Ev):Prop:=0≤e.arr∧0≤e.cell∧∃ (row:List Int) (y:Int),m[e.arr.toNat]?=some row∧row[e.cell.toNat]?=some y∧(0 < e.pos→y=e.val)
def nextM (m:List (List Int)) (e:Ev):List (List Int):=if 0 < e.pos then m else writeV m e.arr.toNat e.cell.toNat e.val
def Rep:List (List Int)→List Ev→List (List Int)→Prop
 | m,[],m'=>m'=m
 | m,e::l,m'=>OkEv m e∧Rep (nextM m e) l m'
def wrI (l:List Ev):List Ins:=(l.filter fun e=>decide (e.pos≤0)).map (·.ins)
theorem wrI_app (a b:List Ev):wrI (a++b)=wrI a++wrI b:=by simp [wrI]
theorem Rep.app:∀ {l1 l2:List Ev} {m m1 m2:List (List Int)},Rep m l1 m1→Rep m1 l2 m2→Rep m (l1++l2) m2
 | [],l2,m,m1,m2,h1,h2=>by
  obtain rfl:m1=m:=h1
  exact h2
 | e::l1,l2,m,m1,m2,h1,h2=>⟨h1.1,Rep.app h1.2 h2⟩
theorem rep_reads:∀ {l:List Ev} {m:List (List Int)},(∀ e∈l,OkEv m e∧0 < e.pos)→Rep m l m∧wrI l=[]
 | [],m,_=>⟨rfl,rfl⟩
 | e::l,m,h=>by
  obtain ⟨h1,h2⟩:=h e (by simp)
  obtain ⟨h3,h4⟩:=rep_reads (l:=l) (m:=m) fun x hx=>h x (List.mem_cons_of_mem _ hx)
  refine ⟨⟨h1,?_⟩,?_⟩
  ·unfold nextM; rw [if_pos h2]; exact h3
  ·have:¬ e.pos≤0:=by omega
   simp only [wrI] at h4
   simp [wrI,List.filter_cons,this]
   simpa using h4
theorem okEv_of {sh:List Shape} {rows:List (List Int)} (hfit:Fit sh rows) {x:List Int} {r:Ref} {nv:Nat} (hr:OkRf sh nv r) {c:Int} (hc:cellV x r.subs ((sh[r.a.toNat]?).elim [] (·.sizes)) 0=some c) :
  0≤r.a∧0≤c∧∃ (row:List Int) (y:Int),rows[r.a.toNat]?=some row∧row[c.toNat]?=some y:=by
 obtain ⟨a,s,ha,hs,hl,_⟩:=hr
 have e1:r.a.toNat=a:=by omega
 rw [e1,hs] at hc
 simp only [Option.elim] at hc
 obtain ⟨row,k,y,h1,rfl,h3,_⟩:=hfit.rd ha hs hl hc
 exact ⟨by omega,by omega,row,y,by rw [e1]; exact h1,by simpa using h3⟩
theorem exprT_rep {sh:List Shape} {rows:List (List Int)} (hfit:Fit sh rows) {x:List Int} {i:Ins} {nv:Nat}:∀ {e:Exp},OkX sh nv e→∀ pos:Int,0≤pos→pos+cntE e≤1000000000 →
  (∀ ev∈(exprT rows sh x i e pos).2.2,OkEv rows ev∧0 < ev.pos)∧pos≤(exprT rows sh x i e pos).2.1∧(exprT rows sh x i e pos).2.1≤pos+cntE e:=by
 intro e he
 induction he with
 | @num e h =>
  intro pos h0 h1
  rw [exprT_eq,if_pos h]
  exact ⟨by simp,Int.le_refl _,by simp only; omega⟩
 | @aff e h hl =>
  intro pos h0 h1
  rw [exprT_eq,if_neg (by omega),if_pos h]
  exact ⟨by simp,Int.le_refl _,by simp only; omega⟩
 | @read e h hr =>
  intro pos h0 h1
  have hc1:1≤cntE e:=by rw [cntE_args]; omega
  have hw:wi (pos+1)=pos+1:=wi_id (by omega) (by omega)
  rw [exprT_eq,if_neg (by omega),if_neg (by omega),if_pos h,hw]
  cases hc:cellV x e.r.subs ((sh[e.r.a.toNat]?).elim [] (·.sizes)) 0 with
  | none=>exact ⟨by simp,by simp only; omega,by simp only; omega⟩
  | some c =>
   obtain ⟨q1,q2,row,y,q3,q4⟩:=okEv_of hfit hr hc
   simp only [q3,Option.bind_some,q4]
   refine ⟨fun ev hev=>?_,by omega,by omega⟩
   rw [List.mem_singleton.1 hev]
   exact ⟨⟨q1,q2,row,y,q3,q4,fun _=>rfl⟩,by simp only; omega⟩
 | @bin e p1 p2 h1 h2 ha hp1 hp2 ih1 ih2 =>
  intro pos h0 hp
  have hc1:cntE e=1+(cntE p1+(cntE p2+0)):=by rw [cntE_args,ha]; rfl
  obtain ⟨a1,a2,a3⟩:=ih1 pos h0 (by omega)
  rw [exprT_eq,if_neg (by omega),if_neg (by omega),if_neg (by omega),ha,exprsT]
  revert a1 a2 a3
  generalize exprT rows sh x i p1 pos=t1
  obtain ⟨v1,q1,l1⟩:=t1
  intro a1 a2 a3
  simp only at a1 a2 a3
  cases v1 with
  | none=>exact ⟨a1,a2,by simp only; omega⟩
  | some v1 =>
   obtain ⟨b1,b2,b3⟩:=ih2 q1 (by omega) (by omega)
   simp only [exprsT]
   revert b1 b2 b3
   generalize exprT rows sh x i p2 q1=t2
   obtain ⟨v2,q2,l2⟩:=t2
   intro b1 b2 b3
   simp only at b1 b2 b3
   cases v2 with
   | none =>
    refine ⟨fun ev hev=>?_,by simp only; omega,by simp only; omega⟩
    rcases List.mem_append.1 hev with h | h
    ·exact a1 ev h
    ·exact b1 ev h
   | some v2 =>
    simp only [exprsT,List.append_nil]
    refine ⟨fun ev hev=>?_,by omega,by omega⟩
    rcases List.mem_append.1 hev with h | h
    ·exact a1 ev h
    ·exact b1 ev h
def Good (sh:List Shape) (rows rowsD:List (List Int)) (t d:Tr):Prop:=∀ st2 rows2,t.r=.ok st2 rows2→Fit sh rows2∧Rep rows t.l rows2∧wrI t.l=t.i∧d.r=.ok st2 rowsD∧d.i=t.i
variable {sh:List Shape} {rows rowsD:List (List Int)}
theorem Good.bind {t d:Tr} {k k':Int→List (List Int)→Tr} (h:Good sh rows rowsD t d) (hk:∀ st1 rows1,Fit sh rows1→Good sh rows1 rowsD (k st1 rows1) (k' st1 rowsD)):Good sh rows rowsD (t.bind k) (d.bind k'):=by
 intro st2 rows2 h2
 unfold Tr.bind at h2 ⊢
 cases hr:t.r with
 | pan e=>rw [hr] at h2; cases h2
 | ok st1 rows1 =>
  rw [hr] at h2
  obtain ⟨f1,r1,w1,d1,i1⟩:=h _ _ hr
  obtain ⟨f2,r2,w2,d2,i2⟩:=hk st1 rows1 f1 _ _ h2
  rw [d1]
  simp only
  exact ⟨f2,r1.app r2,by rw [wrI_app,w1,w2],d2,by rw [i1,i2]⟩
theorem good_ok (hf:Fit sh rows) (st:Int):Good sh rows rowsD ⟨.ok st rows,[],[]⟩ ⟨.ok st rowsD,[],[]⟩:=by
 intro st2 rows2 h
 cases h
 exact ⟨hf,rfl,rfl,rfl,rfl⟩
theorem good_step (hf:Fit sh rows) (st:Int):Good sh rows rowsD (stepT st rows) (stepT st rowsD):=by
 unfold stepT stepV
 by_cases h:st=65536
 ·rw [if_pos h]
  intro st2 rows2 h2
  cases h2
 ·rw [if_neg h,if_neg h]
  exact good_ok hf _
theorem good_asg {np nv:Nat} {s:Stm} (he:OkX sh nv s.value) (ht:OkRf sh nv s.target) (hc:cntE s.value≤64) (hf:Fit sh rows) (x:List Int) (num st:Int):Good sh rows rowsD (assignT sh np false s x num st rows) (assignT sh np true s x num st rowsD):=by
 unfold assignT
 refine Good.bind (good_step hf st) fun st1 rows1 hf1=>?_
 rw [if_neg (by decide),if_pos rfl]
 obtain ⟨a1,_,_⟩:=exprT_rep hf1 (x:=x) (i:=⟨num,x.drop np⟩) he 0 (Int.le_refl _) (by omega)
 revert a1
 generalize exprT rows1 sh x ⟨num,x.drop np⟩ s.value 0=t1
 obtain ⟨v1,q1,l1⟩:=t1
 intro a1
 intro st2 rows2 h2
 cases v1 with
 | none=>cases h2
 | some v =>
  simp only at h2 ⊢
  cases hcv:cellV x s.target.subs ((sh[s.target.a.toNat]?).elim [] (·.sizes)) 0 with
  | none=>rw [hcv] at h2; cases h2
  | some k =>
   rw [hcv] at h2
   cases h2
   obtain ⟨q1,q2,row,y,q3,q4⟩:=okEv_of hf1 ht hcv
   obtain ⟨r1,w1⟩:=rep_reads a1
   refine ⟨hf1.wr,r1.app ⟨⟨q1,q2,row,y,q3,q4,fun h=>by simp at h⟩,?_⟩,?_,rfl,rfl⟩
   ·simp [nextM,Rep]
   ·rw [wrI_app,w1]; simp [wrI]
theorem good_loop {f f':Int→Int→List (List Int)→Tr} (hf:∀ v st rows,Fit sh rows→Good sh rows rowsD (f v st rows) (f' v st rowsD)) (step high:Int):∀ (n:Nat) (v st:Int) (rows:List (List Int)),Fit sh rows→Good sh rows rowsD (loopT f step high n v st rows) (loopT f' step high n v st rowsD)
 | 0,v,st,rows,h=>good_ok h st
 | n+1,v,st,rows,h=>by
  rw [loopT,loopT]
  split
  ·exact Good.bind (good_step h st) fun st1 rows1 h1=>Good.bind (hf v st1 rows1 h1) fun st2 rows2 h2=>good_loop hf step high n _ st2 rows2 h2
  ·exact good_ok h st
theorem good_list {np:Nat}:∀ (l:List Stm),(∀ s∈l, ∀ x f st rows,Fit sh rows→Good sh rows rowsD (stmT sh np false s x f st rows) (stmT sh np true s x f st rowsD))→∀ x f st rows,Fit sh rows→Good sh rows rowsD (bodyT sh np false l x f st rows) (bodyT sh np true l x f st rowsD)
 | [],_,x,f,st,rows,hf=>by rw [bodyT,bodyT]; exact good_ok hf st
 | s::l,h,x,f,st,rows,hf=>by
  rw [bodyT,bodyT]
  exact Good.bind (h s (by simp) x f st rows hf) fun st1 rows1 h1=>good_list l (fun t ht=>h t (List.mem_cons_of_mem _ ht)) x _ st1 rows1 h1
theorem good_stm {np:Nat}:∀ (s:Stm) (nv:Nat),OkSt sh nv s→OkCt s→∀ x f st rows,Fit sh rows→Good sh rows rowsD (stmT sh np false s x f st rows) (stmT sh np true s x f st rowsD):=by
 refine Stm.ind fun s ihb ihe nv hs hc x f st rows hf=>?_
 rw [stmT_eq,stmT_eq]
 cases hs with
 | loop hk hn hlo hhi hst hb =>
  cases hc with
  | test h=>omega
  | asg h=>exact absurd hk h
  | loop _ hcb =>
   rw [if_pos hk,if_pos hk]
   cases hl:boundV true x s.low with
   | none=>intro _ _ h; cases h
   | some lo =>
    simp only
    cases hh:boundV false x s.high with
    | none=>intro _ _ h; cases h
    | some hi =>
     simp only
     exact good_loop (f:=fun v st rows=>bodyT sh np false s.body (x++[v]) f st rows) (f':=fun v st rows=>bodyT sh np true s.body (x++[v]) f st rows) (fun v st rows h=>good_list s.body (fun t ht=>ihb t ht (nv+1) (hb t ht) (hcb t ht)) _ _ _ _ h) _ _ _ _ _ _ hf
 | test hk hb he =>
  cases hc with
  | loop h=>omega
  | asg _ h=>exact absurd hk h
  | test _ hcb hce =>
   have hk1:¬ s.kind=1:=by omega
   simp only [if_neg hk1,if_pos hk]
   split
   ·exact good_list s.body (fun t ht=>ihb t ht nv (hb t ht) (hcb t ht)) _ _ _ _ hf
   ·exact good_list s.els (fun t ht=>ihe t ht nv (he t ht) (hce t ht)) _ _ _ _ hf
 | asg h1 h2 hx ht =>
  cases hc with
  | loop h=>exact absurd h h1
  | test h=>exact absurd h h2
  | asg _ _ hcn =>
   simp only [if_neg h1,if_neg h2]
   exact good_asg hx ht hcn hf x f st
theorem chk_ct {p:Prg}:∀ (s:Stm) (nm:List ByteArray) (st:Int),(chkStm p s nm st).1=true→OkCt s:=by
 refine Stm.ind fun s ihb ihe nm st h=>?_
 by_cases h1:s.kind=1
 ·rw [chkStm_for h1] at h
  split at h<;>try (cases h; done)
  obtain ⟨hd,hl⟩:=chkBody_dl h
  refine .loop h1 fun t ht=>?_
  obtain ⟨st',h'⟩:=chkList_mem hl t ht
  exact ihb t ht _ st' h'
 ·by_cases h2:s.kind=2
  ·rw [chkStm_if h2] at h
   split at h<;>try (cases h; done)
   split at h<;>try (cases h; done)
   rename_i hb
   obtain ⟨_,hl⟩:=chkBody_dl hb
   obtain ⟨_,hl2⟩:=chkBody_dl h
   refine .test h2 (fun t ht=>?_) fun t ht=>?_
   ·obtain ⟨st',h'⟩:=chkList_mem hl t ht
    exact ihb t ht nm st' h'
   ·obtain ⟨st',h'⟩:=chkList_mem hl2 t ht
    exact ihe t ht nm st' h'
  ·by_cases h3:s.kind=3
   ·rw [chkStm_asg h3] at h
    simp only [cAsg,Bool.and_eq_true] at h
    have h4:=h.2
    rw [(node_expr _ _).1] at h4
    simp only [Bool.and_eq_true,decide_eq_true_eq] at h4
    exact .asg h1 h2 (by omega)
   ·rw [chkStm_bad h1 h2 h3] at h; cases h
theorem good_prg {p:Prg} (h:chkPrg p=true) {ps:List Int} (hl:ps.length=p.params.length) {rows:List (List Int)} (hf:Fit (shapesOf ps p.arrays) rows):Good (shapesOf ps p.arrays) rows [] (bodyT (shapesOf ps p.arrays) ps.length false p.body ps 0 0 rows) (dryT p ps):=by
 have hok:=prg_okst h hl
 have hc:=h
 simp only [chkPrg,Bool.and_eq_true] at hc
 obtain ⟨_,h1⟩:=chkBody_dl hc.2
 refine good_list p.body (fun s hs x f st rows hf=>good_stm s ps.length (hok s hs) ?_ x f st rows hf) _ _ _ _ hf
 obtain ⟨st',h'⟩:=chkList_mem h1 s hs
 exact chk_ct s _ _ h'
end Y
end Wp
end AM
end Go.Proofs.Ytimfbnojmdnlnaa
