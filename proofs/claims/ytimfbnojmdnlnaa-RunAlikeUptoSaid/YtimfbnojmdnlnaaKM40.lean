/- The reference's machine as a plain function: memory, instances and events; where it ends as the program's does; The reference's machine ends as the program's does, where the program is valid and the point in range. -/
import Derived.Test.YtimfbnojmdnlnaaKM35
import Derived.Test.YtimfbnojmdnlnaaKShI
set_option linter.all false
set_option maxRecDepth 100000
section
namespace Go.Proofs.Ytimfbnojmdnlnaa
namespace AM
namespace Wp
structure Ins where
 stm:Int
 x:List Int
def encIns (i:Ins):List V:=[.int .i64 i.stm, .slice .shut (i.x.map encI)]
structure Ev where
 ins:Ins
 pos:Int
 arr:Int
 cell:Int
 val:Int
def encEv (e:Ev):List V:=[.int .i64 e.ins.stm, .slice .shut (e.ins.x.map encI), .int .i64 e.pos, .int .i64 e.arr, .int .i64 e.cell, .int .i64 e.val]
mutual
def nAsgS:Stm→Nat
 | ⟨kind,_,_,_,_,_,_,_,_,_,body,_,els⟩=>if kind=1 then nAsg body else if kind=2 then nAsg body+nAsg els else 1
def nAsg:List Stm→Nat
 | []=>0
 | s::l=>nAsgS s+nAsg l
end
theorem nAsgS_eq (s:Stm):nAsgS s=if s.kind=1 then nAsg s.body else if s.kind=2 then nAsg s.body+nAsg s.els else 1:=by cases s; rw [nAsgS]
theorem infL_n:∀ l:List Stm,(∀ s∈l, ∀ (path:List Int) (nb:Bool) (names:List ByteArray) (i:Nat),(I.infS path nb names i s).length=nAsgS s)→∀ (path:List Int) (nb:Bool) (names:List ByteArray) (i:Nat),(I.infL path nb names i l).length=nAsg l
 | [],_,path,nb,names,i=>by rw [I.infL,nAsg]; rfl
 | s::l,h,path,nb,names,i=>by
  have h1:=h s (by simp) path nb names i
  have h2:=infL_n l (fun y hy=>h y (List.mem_cons_of_mem _ hy)) path nb names (i+1)
  simp only [I.infL,List.length_append,nAsg]; omega
theorem infS_n:∀ (s:Stm) (path:List Int) (nb:Bool) (names:List ByteArray) (i:Nat),(I.infS path nb names i s).length=nAsgS s:=by
 refine Stm.ind fun x ihb ihe path nb names i=>?_
 have hb:=fun p b n=>infL_n x.body ihb p b n 0
 have he:=fun p b n=>infL_n x.els ihe p b n 0
 rw [I.infS_eq,nAsgS_eq]
 split
 ·rw [hb]
 ·split
  ·rw [List.length_append,hb,he]
  ·rfl
theorem infL_nAsg (l:List Stm) (path:List Int) (nb:Bool) (names:List ByteArray) (i:Nat):(I.infL path nb names i l).length=nAsg l:=infL_n l (fun s _=>infS_n s) path nb names i
theorem nAsg_wt (l:List Stm):nAsg l≤wtR (l.map encStm):=by
 rw [← infL_nAsg l [] true [] 0]; exact I.infL_len l [] true [] 0
def cisV (c:Cnd) (x:List Int):Bool:=if c.kind=0 then decide (0≤linAt c.l x) else if c.kind=1 then decide (linAt c.l x=0) else decide ((linAt c.l x).tmod c.m=0)
def inV4 (x:List Int) (p:Piece):Bool:=p.conds.all fun c=>cisV c x
def isV4 (t:PSet) (x:List Int):Bool:=t.pieces.any (inV4 x)
mutual
def exprT (mem:List (List Int)) (sh:List Shape) (x:List Int) (i:Ins):Exp→Int→Option Int×Int×List Ev
 | ⟨op,k,l,r,_,args⟩,pos=>if op=0 then (some k,pos,[]) else if op=1 then (some (wrapV (linAt l x)),pos,[]) else if op=2 then
   (match cellV x r.subs ((sh[r.a.toNat]?).elim [] (·.sizes)) 0 with
   | none=>(none,wi (pos+1),[])
   | some c=>match (mem[r.a.toNat]?).bind fun row=>row[c.toNat]? with
    | none=>(none,wi (pos+1),[])
    | some y=>(some y,wi (pos+1),[⟨i,wi (pos+1),r.a,c,y⟩]))
  else (bin2 op (exprsT mem sh x i args pos).1,(exprsT mem sh x i args pos).2)
def exprsT (mem:List (List Int)) (sh:List Shape) (x:List Int) (i:Ins):List Exp→Int→List (Option Int)×Int×List Ev
 | [],pos=>([],pos,[])
 | e::es,pos=>match exprT mem sh x i e pos with
  | (none,p,l)=>([none],p,l)
  | (some v,p,l)=>(some v::(exprsT mem sh x i es p).1,(exprsT mem sh x i es p).2.1,l++(exprsT mem sh x i es p).2.2)
end
theorem exprT_eq (mem:List (List Int)) (sh:List Shape) (x:List Int) (i:Ins) (e:Exp) (pos:Int):exprT mem sh x i e pos=if e.op=0 then (some e.k,pos,[]) else if e.op=1 then (some (wrapV (linAt e.l x)),pos,[]) else if e.op=2 then
   (match cellV x e.r.subs ((sh[e.r.a.toNat]?).elim [] (·.sizes)) 0 with
   | none=>(none,wi (pos+1),[])
   | some c=>match (mem[e.r.a.toNat]?).bind fun row=>row[c.toNat]? with
    | none=>(none,wi (pos+1),[])
    | some y=>(some y,wi (pos+1),[⟨i,wi (pos+1),e.r.a,c,y⟩]))
  else (bin2 e.op (exprsT mem sh x i e.args pos).1,(exprsT mem sh x i e.args pos).2):=by
 cases e; rw [exprT]
theorem bin2_none {op:Int} {vs:List (Option Int)} (h:none∈vs):bin2 op vs=none:=by
 match vs,h with
 | [none],_=>rfl
 | [some a],h=>simp at h
 | [none,_],_=>rfl
 | [some a,none],_=>rfl
 | [some a,some b],h=>simp at h
 | a::b::c::l,_=>cases a<;>cases b<;>rfl
theorem exprsT_v {mem:List (List Int)} {sh:List Shape} {x:List Int} {i:Ins}:∀ {es:List Exp} {pos:Int},(∀ e∈es, ∀ pos,(exprT mem sh x i e pos).1=exprV mem sh x e)→(exprsT mem sh x i es pos).1=exprsV mem sh x es∨(none∈(exprsT mem sh x i es pos).1∧none∈exprsV mem sh x es)
 | [],pos,_=>.inl (by rw [exprsT,exprsV])
 | e::es,pos,h=>by
  have h1:=h e (by simp) pos
  rw [exprsT,exprsV, ← h1]
  match hv:exprT mem sh x i e pos with
  | (none,p,l)=>exact .inr ⟨by simp,by simp⟩
  | (some v,p,l) =>
   rcases exprsT_v (es:=es) (pos:=p) (fun y hy=>h y (List.mem_cons_of_mem _ hy)) with h2 | ⟨h2,h3⟩
   ·exact .inl (by simp [h2])
   ·exact .inr ⟨List.mem_cons_of_mem _ h2,List.mem_cons_of_mem _ h3⟩
theorem exprT_v {mem:List (List Int)} {sh:List Shape} {x:List Int} {i:Ins}:∀ (e:Exp) (pos:Int),(exprT mem sh x i e pos).1=exprV mem sh x e:=by
 refine Exp.ind fun e ih pos=>?_
 rw [exprT_eq,exprV_eq]
 split
 ·rfl
 ·split
  ·rfl
  ·split
   ·unfold readV
    cases hc:cellV x e.r.subs ((sh[e.r.a.toNat]?).elim [] (·.sizes)) 0 with
    | none=>rfl
    | some c =>
     simp only [Option.bind_some]
     cases (mem[e.r.a.toNat]?).bind fun row=>row[c.toNat]?<;>rfl
   ·rcases exprsT_v (pos:=pos) ih with h | ⟨h1,h2⟩
    ·simp only [h]
    ·simp only [bin2_none h1,bin2_none h2]
structure Tr where
 r:Rs
 i:List Ins
 l:List Ev
def Tr.bind (t:Tr) (k:Int→List (List Int)→Tr):Tr:=match t.r with
 | .pan e=>⟨.pan e,t.i,t.l⟩
 | .ok st rows=>⟨(k st rows).r,t.i++(k st rows).i,t.l++(k st rows).l⟩
def stepT (st:Int) (rows:List (List Int)):Tr:=⟨stepV st rows,[],[]⟩
def assignT (sh:List Shape) (np:Nat) (dry:Bool) (s:Stm) (x:List Int) (num st:Int) (rows:List (List Int)):Tr :=
 (stepT st rows).bind fun st rows =>
  if dry=true then ⟨.ok st rows,[⟨num,x.drop np⟩],[]⟩ else
  match exprT rows sh x ⟨num,x.drop np⟩ s.value 0 with
  | (none,_,l)=>⟨.pan 6,[⟨num,x.drop np⟩],l⟩
  | (some v,_,l)=>match cellV x s.target.subs ((sh[s.target.a.toNat]?).elim [] (·.sizes)) 0 with
   | none=>⟨.pan 6,[⟨num,x.drop np⟩],l⟩
   | some k=>⟨.ok st (writeV rows s.target.a.toNat k.toNat v),[⟨num,x.drop np⟩],l++[⟨⟨num,x.drop np⟩,0,s.target.a,k,v⟩]⟩
def loopT (f:Int→Int→List (List Int)→Tr) (step high:Int):Nat→Int→Int→List (List Int)→Tr
 | 0,_,st,rows=>⟨.ok st rows,[],[]⟩
 | n+1,v,st,rows=>if v≤high then (stepT st rows).bind fun st rows=>(f v st rows).bind fun st rows=>loopT f step high n (wi (v+step)) st rows else ⟨.ok st rows,[],[]⟩
mutual
def stmT (sh:List Shape) (np:Nat) (dry:Bool):Stm→List Int→Int→Int→List (List Int)→Tr
 | s@⟨kind,_,low,high,step,_,test,_,_,_,body,_,els⟩,x,first,st,rows =>
  if kind=1 then (match boundV true x low with
   | none=>⟨.pan 6,[],[]⟩
   | some lo=>match boundV false x high with
    | none=>⟨.pan 6,[],[]⟩
    | some hi=>loopT (fun v st rows=>bodyT sh np dry body (x++[v]) first st rows) step hi (hi - lo+1).toNat lo st rows)
  else if kind=2 then (if isV4 test x=true then bodyT sh np dry body x first st rows else bodyT sh np dry els x (wi (first+(nAsg body:Nat))) st rows)
  else assignT sh np dry s x first st rows
def bodyT (sh:List Shape) (np:Nat) (dry:Bool):List Stm→List Int→Int→Int→List (List Int)→Tr
 | [],_,_,st,rows=>⟨.ok st rows,[],[]⟩
 | s::l,x,first,st,rows=>(stmT sh np dry s x first st rows).bind fun st rows=>bodyT sh np dry l x (wi (first+(nAsgS s:Nat))) st rows
end
theorem stmT_eq (sh:List Shape) (np:Nat) (dry:Bool) (s:Stm) (x:List Int) (first st:Int) (rows:List (List Int)):stmT sh np dry s x first st rows =
  if s.kind=1 then (match boundV true x s.low with
   | none=>⟨.pan 6,[],[]⟩
   | some lo=>match boundV false x s.high with
    | none=>⟨.pan 6,[],[]⟩
    | some hi=>loopT (fun v st rows=>bodyT sh np dry s.body (x++[v]) first st rows) s.step hi (hi - lo+1).toNat lo st rows)
  else if s.kind=2 then (if isV4 s.test x=true then bodyT sh np dry s.body x first st rows else bodyT sh np dry s.els x (wi (first+(nAsg s.body:Nat))) st rows)
  else assignT sh np dry s x first st rows:=by
 cases s; rw [stmT]
theorem asgT_r {sh:List Shape} {np:Nat} {s:Stm} {x:List Int} {num st:Int} {rows:List (List Int)}:(assignT sh np false s x num st rows).r=assignV sh s x st rows:=by
 unfold assignT assignV
 by_cases h:st=65536
 ·have h1:stepT st rows=⟨.pan 3,[],[]⟩:=by simp [stepT,stepV,h]
  rw [h1,if_pos h]; rfl
 ·have h1:stepT st rows=⟨.ok (wi (st+1)) rows,[],[]⟩:=by simp [stepT,stepV,h]
  rw [h1,if_neg h]
  simp only [Tr.bind,Bool.false_eq_true,if_false]
  have hv:=exprT_v (mem:=rows) (sh:=sh) (x:=x) (i:=⟨num,x.drop np⟩) s.value 0
  rw [← hv]
  match exprT rows sh x ⟨num,x.drop np⟩ s.value 0 with
  | (none,p,l)=>rfl
  | (some v,p,l) =>
   simp only
   cases cellV x s.target.subs ((sh[s.target.a.toNat]?).elim [] (·.sizes)) 0<;>rfl
end Wp
end AM
end Go.Proofs.Ytimfbnojmdnlnaa
end
section
namespace Go.Proofs.Ytimfbnojmdnlnaa
namespace AM
namespace Wp
theorem wi_add (a b:Int):wi (wi a+b)=wi (a+b):=by unfold wi; rw [IntKind.wrap_i64,IntKind.wrap_i64,IntKind.wrap_i64]; omega
theorem wi_add' (a b:Int):wi (a+wi b)=wi (a+b):=by rw [Int.add_comm,wi_add,Int.add_comm]
theorem fold_wi:∀ (l:List (Int×Int)) (a:Int),l.foldl linStep (wi a)=wi (a+l.foldl linStep 0)
 | [],a=>by simp [List.foldl]
 | p::l,a=>by
  rw [List.foldl_cons,List.foldl_cons]
  have h1:linStep (wi a) p=wi (a+wi (p.1*p.2)):=wi_add _ _
  have h2:linStep 0 p=wi (wi (p.1*p.2)):=by unfold linStep; rw [Int.zero_add]
  rw [h1,h2,fold_wi l,fold_wi l,wi_add',Int.add_assoc]
def InRng (x:List Int):Prop:=x.any farI=false
theorem InRng.snoc {x:List Int} {v:Int} (h:InRng x) (hv:-4294967296≤v∧v≤4294967296):InRng (x++[v]):=by
 unfold InRng at h ⊢
 rw [List.any_append,h]
 simp [farI]; omega
theorem lin_is {l:Lin} (hl:OkLin l) {x:List Int} (hv:vLin l=true) (hn:l.c.length=x.length) (h12:x.length≤12) (hx:InRng x):linV l x=(linAt l x,0):=by
 have hb:(l.c.zip x).any badP=false:=by
  rw [List.any_eq_false]
  intro p hp
  obtain ⟨h1,h2⟩:=List.of_mem_zip hp
  have h3:fits p.1=true:=by
   simp only [vLin,Bool.and_eq_true] at hv
   exact List.all_eq_true.1 hv.1 p.1 h1
  have h4:farI p.2=false:=by
   have:=List.any_eq_false.1 hx p.2 h2
   simpa using this
  simp [badP,h3,h4]
 have hd:dotV l.c x=((l.c.zip x).foldl linStep 0,0):=by
  unfold dotV
  rw [if_neg (by simp [hn]),if_neg (by omega),hb]; rfl
 unfold linV
 rw [if_pos hv,hd]
 simp only [if_true]
 have hk:wi l.k=l.k:=by
  have:=hl.k
  exact wi_id this.1 this.2
 have:=fold_wi (l.c.zip x) l.k
 rw [hk] at this
 rw [← this]; rfl
theorem holds_is {c:Cnd} (hc:OkCnd c) {x:List Int} (hv:vCnd c=true) (hn:c.l.c.length=x.length) (h12:x.length≤12) (hx:InRng x):(holdsV c x).1=cisV c x:=by
 have hl:vLin c.l=true:=by
  unfold vCnd at hv
  split at hv
  ·simp only [Bool.and_eq_true] at hv; exact hv.2
  ·split at hv
   ·simp only [Bool.and_eq_true] at hv; exact hv.2
   ·cases hv
 unfold holdsV cisV
 rw [if_pos hv,lin_is hc.l hl hn h12 hx]
 simp only [if_true]
 split
 ·rfl
 ·split<;>rfl
theorem idxF_any {α:Type} {f:α→Bool}:∀ {l:List α} {k:Nat},decide (0≤idxF f k l)=l.any f
 | [],k=>by simp [idxF]
 | a::l,k=>by
  rw [idxF,List.any_cons]
  split
  ·rename_i h; simp [h]
  ·rename_i h
   rw [idxF_any]
   simp [h]
theorem any_congr {α:Type} {f g:α→Bool}:∀ {l:List α},(∀ x∈l,f x=g x)→l.any f=l.any g
 | [],_=>rfl
 | a::l,h=>by rw [List.any_cons,List.any_cons,h a (by simp),any_congr fun x hx=>h x (List.mem_cons_of_mem _ hx)]
theorem all_congr {α:Type} {f g:α→Bool}:∀ {l:List α},(∀ x∈l,f x=g x)→l.all f=l.all g
 | [],_=>rfl
 | a::l,h=>by rw [List.all_cons,List.all_cons,h a (by simp),all_congr fun x hx=>h x (List.mem_cons_of_mem _ hx)]
theorem is_has {t:PSet} (ht:OkPSet t) {x:List Int} (hv:vSet t=true) (hd:t.dim=(x.length:Int)) (h12:x.length≤12) (hx:InRng x):isV4 t x=(hasV t x).1:=by
 unfold hasV isV4
 rw [if_pos hv,if_pos hd.symm,hx]
 simp only [Bool.false_eq_true,if_false]
 rw [idxF_any]
 refine any_congr fun p hp=>?_
 unfold inPiece inV4
 rw [idxF_any, ← List.not_all_eq_any_not,Bool.not_not]
 refine all_congr fun c hc=>?_
 simp only [vSet,Bool.and_eq_true] at hv
 have h1:=List.all_eq_true.1 hv.2 p hp
 simp only [Bool.and_eq_true,vOver] at h1
 have h2:=List.all_eq_true.1 h1.2 c hc
 simp only [Bool.and_eq_true,decide_eq_true_eq] at h2
 exact (holds_is ((ht.s p hp).s c hc) h2.1 (by omega) h12 hx).symm
inductive OkTs:Nat→Stm→Prop
 | loop {nv:Nat} {s:Stm} (h:s.kind=1) (hb:∀ t∈s.body,OkTs (nv+1) t):OkTs nv s
 | test {nv:Nat} {s:Stm} (h:s.kind=2) (h12:nv≤12) (hv:vSet s.test=true) (hd:s.test.dim=(nv:Int)) (hb:∀ t∈s.body,OkTs nv t) (he:∀ t∈s.els,OkTs nv t):OkTs nv s
 | asg {nv:Nat} {s:Stm} (h1:s.kind≠1) (h2:s.kind≠2):OkTs nv s
def bindR (a:Rs) (k:Int→List (List Int)→Rs):Rs:=match a with
 | .pan e=>.pan e
 | .ok st rows=>k st rows
theorem bind_r {t:Tr} {k:Int→List (List Int)→Tr} {a:Rs} {k':Int→List (List Int)→Rs} (h:t.r=a) (hk:∀ st rows,(k st rows).r=k' st rows):(t.bind k).r=bindR a k':=by
 subst h
 unfold Tr.bind bindR
 cases t.r with
 | pan e=>rfl
 | ok st rows=>exact hk st rows
theorem loopT_r {f:Int→Int→List (List Int)→Tr} {f':Int→Int→List (List Int)→Rs} {step high low:Int} (hs:1≤step∧step≤64) (hr:-4294967296≤low∧high≤4294967296) (h:∀ v st rows,low≤v→v≤high→(f v st rows).r=f' v st rows):∀ (n:Nat) (v st:Int) (rows:List (List Int)),low≤v→(loopT f step high n v st rows).r=loopI f' step high n v st rows
 | 0,v,st,rows,_=>rfl
 | n+1,v,st,rows,hv=>by
  rw [loopT,loopI]
  split
  ·rename_i hle
   refine (bind_r (a:=stepV st rows) (k':=fun st rows=>bindR (f' v st rows) fun st rows=>loopI f' step high n (wi (v+step)) st rows) rfl fun st rows=>?_).trans rfl
   refine bind_r (a:=f' v st rows) (k':=fun st rows=>loopI f' step high n (wi (v+step)) st rows) (h v st rows hv hle) fun st rows=>?_
   exact loopT_r hs hr h n _ st rows (by rw [wi_id (by omega) (by omega)]; omega)
  ·rfl
theorem listT_r {sh:List Shape} {np nv:Nat}:∀ (l:List Stm),(∀ s∈l, ∀ x first st rows,x.length=nv→InRng x→(stmT sh np false s x first st rows).r=stmV sh s x st rows)→∀ x first st rows,x.length=nv→InRng x→(bodyT sh np false l x first st rows).r=bodyV sh l x st rows
 | [],_,x,first,st,rows,_,_=>by rw [bodyT,bodyV]
 | s::l,h,x,first,st,rows,hx,hr=>by
  rw [bodyT,bodyV]
  refine (bind_r (a:=stmV sh s x st rows) (k':=fun st rows=>bodyV sh l x st rows) (h s (by simp) x first st rows hx hr) fun st rows=>?_).trans rfl
  exact listT_r l (fun t ht=>h t (List.mem_cons_of_mem _ ht)) x _ st rows hx hr
theorem stmT_r {sh:List Shape} {np:Nat}:∀ (s:Stm),OkStm s→∀ (nv:Nat),OkSt sh nv s→OkTs nv s→∀ x first st rows,x.length=nv→InRng x→(stmT sh np false s x first st rows).r=stmV sh s x st rows:=by
 refine Stm.ind fun s ihb ihe hs nv ho ht x first st rows hx hr=>?_
 rw [stmT_eq,stmV_eq]
 by_cases h1:s.kind=1
 ·rw [if_pos h1,if_pos h1]
  cases ho with
  | test h=>omega
  | asg h=>exact absurd h1 h
  | loop _ _ _ _ hst hob =>
   cases ht with
   | test h=>omega
   | asg h=>exact absurd h1 h
   | loop _ htb =>
    cases hlo:boundV true x s.low with
    | none=>rfl
    | some lo =>
     cases hhi:boundV false x s.high with
     | none=>rfl
     | some hi =>
      have r1:=boundV_rng hlo
      have r2:=boundV_rng hhi
      simp only
      refine loopT_r hst ⟨r1.1,r2.2⟩ (fun v st rows hv1 hv2=>?_) _ _ _ _ (Int.le_refl _)
      exact listT_r (nv:=nv+1) s.body (fun t hm=>ihb t hm (hs.body' t hm) (nv+1) (hob t hm) (htb t hm)) _ _ _ _ (by simp [hx]) (hr.snoc ⟨by omega,by omega⟩)
 ·rw [if_neg h1,if_neg h1]
  by_cases h2:s.kind=2
  ·rw [if_pos h2,if_pos h2]
   cases ho with
   | loop h=>omega
   | asg _ h=>exact absurd h2 h
   | test _ hob hoe =>
    cases ht with
    | loop h=>omega
    | asg _ h=>exact absurd h2 h
    | test _ h12 hv hd htb hte =>
     have hb:=fun f=>listT_r (sh:=sh) (np:=np) (nv:=nv) s.body (fun t hm=>ihb t hm (hs.body' t hm) nv (hob t hm) (htb t hm)) x f st rows hx hr
     have he:=fun f=>listT_r (sh:=sh) (np:=np) (nv:=nv) s.els (fun t hm=>ihe t hm (hs.els' t hm) nv (hoe t hm) (hte t hm)) x f st rows hx hr
     rw [is_has hs.test' hv (by rw [hd,hx]) (by omega) hr]
     split
     ·exact hb _
     ·exact he _
  ·rw [if_neg h2,if_neg h2]
   exact asgT_r
theorem chk_okts {p:Prg} (hp:p.params.length≤2):∀ (s:Stm) (nm:List ByteArray) (st:Int),nm.length≤12→(chkStm p s nm st).1=true→OkTs nm.length s:=by
 refine Stm.ind fun s ihb ihe nm st hnm h=>?_
 by_cases h1:s.kind=1
 ·rw [chkStm_for h1] at h
  split at h<;>try (cases h; done)
  obtain ⟨hd,hl⟩:=chkBody_dl h
  refine .loop h1 fun t ht=>?_
  obtain ⟨st',h'⟩:=chkList_mem hl t ht
  have:=ihb t ht (nm++[s.name]) st' (deep_len hp hd ht) h'
  rwa [List.length_append] at this
 ·by_cases h2:s.kind=2
  ·rw [chkStm_if h2] at h
   split at h<;>try (cases h; done)
   rename_i hcf
   split at h<;>try (cases h; done)
   rename_i hb
   obtain ⟨_,hl⟩:=chkBody_dl hb
   obtain ⟨_,hl2⟩:=chkBody_dl h
   simp only [cIf,Bool.and_eq_true,decide_eq_true_eq] at hcf
   refine .test h2 hnm hcf.2.1 hcf.2.2 (fun t ht=>?_) fun t ht=>?_
   ·obtain ⟨st',h'⟩:=chkList_mem hl t ht
    exact ihb t ht nm st' hnm h'
   ·obtain ⟨st',h'⟩:=chkList_mem hl2 t ht
    exact ihe t ht nm st' hnm h'
  ·exact .asg h1 h2
theorem bodyT_r {p:Prg} (hp:OkPrg p) (h:chkPrg p=true) {ps:List Int} (hl:ps.length=p.params.length) (hr:∀ n∈ps,0≤n∧n≤1000) (first st:Int) (rows:List (List Int)):(bodyT (shapesOf ps p.arrays) ps.length false p.body ps first st rows).r=bodyV (shapesOf ps p.arrays) p.body ps st rows:=by
 have hok:=prg_okst h hl
 have hh:=chk_head h
 have hc:=h
 simp only [chkPrg,Bool.and_eq_true] at hc
 obtain ⟨_,h1⟩:=chkBody_dl hc.2
 refine listT_r (nv:=ps.length) p.body (fun s hs=>stmT_r s (hp.bs s hs) ps.length (hok s hs) ?_) ps first st rows rfl ?_
 ·obtain ⟨st',h'⟩:=chkList_mem h1 s hs
  rw [hl]
  exact chk_okts hh.1 s p.params st' (by have:=hh.1; omega) h'
 ·unfold InRng
  rw [List.any_eq_false]
  intro n hn
  have:=hr n hn
  simp [farI]; omega
end Wp
end AM
end Go.Proofs.Ytimfbnojmdnlnaa
end
