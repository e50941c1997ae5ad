/- The evaluator with fuel enough: rules; The evaluator with fuel enough, op by op, by what is asked of its end; Calls that are handed the caller's state; boxes of the own level, whatever its number. -/
import Derived.Test.YtimfbnojmdnlnaaKAmA
set_option linter.all false
section
namespace Go.Proofs.Ytimfbnojmdnlnaa
namespace AM
section
variable {E:Env}
def EvC (E:Env) (f:Nat) (args:List V) (v:V):Prop:=∃ K, ∀ j,K≤j→callN E j (.fn f) args []=some (.ret v,[])
def Ev (E:Env) (c:ACode) (F:Fr) (S:St) (r:Ex×Fr×St):Prop:=∃ K, ∀ j k,K≤j→K≤k→codeN E.meth (callN E j) k c F S=some r
def Evb (E:Env) (bs:List Blk) (F:Fr) (S:St) (r:Ex×Fr×St):Prop:=∃ K, ∀ j,K≤j→blks E.meth (callN E j) bs F S=some r
theorem Ev.nop {F:Fr} {S:St}:Ev E .nop F S (.nrm,F,S):=⟨1,fun j k _ hk=>by obtain ⟨k,rfl⟩:∃ m,k=m+1:=⟨k - 1,by omega⟩; rfl⟩
theorem Ev.ret {F:Fr} {S:St}:Ev E .ret F S (.ret,F,S):=⟨1,fun j k _ hk=>by obtain ⟨k,rfl⟩:∃ m,k=m+1:=⟨k - 1,by omega⟩; rfl⟩
theorem Ev.exit {id:Nat} {F:Fr} {S:St}:Ev E (.exit id) F S (.exit id,F,S):=⟨1,fun j k _ hk=>by obtain ⟨k,rfl⟩:∃ m,k=m+1:=⟨k - 1,by omega⟩; rfl⟩
theorem Ev.seq {a b:ACode} {F F1:Fr} {S S1:St} {r:Ex×Fr×St} (h:Ev E a F S (.nrm,F1,S1)) (k:Ev E b F1 S1 r):Ev E (.seq a b) F S r:=by
 obtain ⟨K1,h1⟩:=h
 obtain ⟨K2,h2⟩:=k
 refine ⟨max K1 K2+1,fun j k hj hk=>?_⟩
 obtain ⟨k,rfl⟩:∃ m,k=m+1:=⟨k - 1,by omega⟩
 simp only [codeN,h1 j k (by omega) (by omega),h2 j k (by omega) (by omega)]
theorem Ev.seq_out {a b:ACode} {F F1:Fr} {S S1:St} {e:Ex} (h:Ev E a F S (e,F1,S1)) (he:e≠.nrm):Ev E (.seq a b) F S (e,F1,S1):=by
 obtain ⟨K1,h1⟩:=h
 refine ⟨K1+1,fun j k hj hk=>?_⟩
 obtain ⟨k,rfl⟩:∃ m,k=m+1:=⟨k - 1,by omega⟩
 simp only [codeN,h1 j k (by omega) (by omega)]
 cases e<;>first | rfl | exact absurd rfl he
theorem Ev.cond {c:Opd} {a b:ACode} {F:Fr} {S:St} {r:Ex×Fr×St} (t:Bool) (hc:evO F c=.bool t) (h:Ev E (if t=true then a else b) F S r):Ev E (.cond c a b) F S r:=by
 obtain ⟨K1,h1⟩:=h
 refine ⟨K1+1,fun j k hj hk=>?_⟩
 obtain ⟨k,rfl⟩:∃ m,k=m+1:=⟨k - 1,by omega⟩
 have:=h1 j k (by omega) (by omega)
 cases t<;>simp only [codeN,hc]<;>simpa using this
theorem Ev.blk {id:Nat} {a:ACode} {F F1:Fr} {S S1:St} {e:Ex} (h:Ev E a F S (e,F1,S1)):Ev E (.blk id a) F S (match e with | .exit j=>if j=id then .nrm else .exit j | e=>e,F1,S1):=by
 obtain ⟨K1,h1⟩:=h
 refine ⟨K1+1,fun j k hj hk=>?_⟩
 obtain ⟨k,rfl⟩:∃ m,k=m+1:=⟨k - 1,by omega⟩
 have:=h1 j k (by omega) (by omega)
 cases e with
 | exit i =>
  simp only [codeN,this]
  split<;>rfl
 | _=>simp only [codeN,this]
theorem Ev.loop {a:ACode} {F F1:Fr} {S S1:St} {r:Ex×Fr×St} (h:Ev E a F S (.nrm,F1,S1)) (k:Ev E (.loop a) F1 S1 r):Ev E (.loop a) F S r:=by
 obtain ⟨K1,h1⟩:=h
 obtain ⟨K2,h2⟩:=k
 refine ⟨max K1 K2+1,fun j k hj hk=>?_⟩
 obtain ⟨k,rfl⟩:∃ m,k=m+1:=⟨k - 1,by omega⟩
 simp only [codeN,h1 j k (by omega) (by omega),h2 j k (by omega) (by omega)]
theorem Ev.loop_out {a:ACode} {F F1:Fr} {S S1:St} {e:Ex} (h:Ev E a F S (e,F1,S1)) (he:e≠.nrm):Ev E (.loop a) F S (e,F1,S1):=by
 obtain ⟨K1,h1⟩:=h
 refine ⟨K1+1,fun j k hj hk=>?_⟩
 obtain ⟨k,rfl⟩:∃ m,k=m+1:=⟨k - 1,by omega⟩
 simp only [codeN,h1 j k (by omega) (by omega)]
 cases e<;>first | rfl | exact absurd rfl he
theorem Ev.reg {bs:List Blk} {F:Fr} {S:St} {r:Ex×Fr×St} (h:Evb E bs F S r):Ev E (.reg bs) F S r:=by
 obtain ⟨K1,h1⟩:=h
 refine ⟨K1+1,fun j k hj hk=>?_⟩
 obtain ⟨k,rfl⟩:∃ m,k=m+1:=⟨k - 1,by omega⟩
 simp only [codeN,h1 j (by omega)]
theorem Evb.nil {F:Fr} {S:St}:Evb E [] F S (.nrm,F,S):=⟨0,fun _ _=>rfl⟩
theorem Evb.seq {o:AOper} {bs:List Blk} {F F1:Fr} {S S1:St} {r:Ex×Fr×St} (h:∃ K, ∀ j,K≤j→seqOper E.meth (callN E j) o F S=some (.ok F1 S1)) (k:Evb E bs F1 S1 r):Evb E (.seq o::bs) F S r:=by
 obtain ⟨K1,h1⟩:=h
 obtain ⟨K2,h2⟩:=k
 exact ⟨max K1 K2,fun j hj=>by simp only [blks,h1 j (by omega),h2 j (by omega)]⟩
theorem Evb.op {o:AOper} {bs:List Blk} {F F1:Fr} {S S1:St} {r:Ex×Fr×St} (h:∀ cE,seqOper E.meth cE o F S=some (.ok F1 S1)) (k:Evb E bs F1 S1 r):Evb E (.seq o::bs) F S r:=Evb.seq ⟨0,fun _ _=>h _⟩ k
theorem Evb.free {os:List AOper} {bs:List Blk} {F F1:Fr} {S:St} {r:Ex×Fr×St} (h:∃ K, ∀ j,K≤j→freeL (callN E j) S os F=some F1) (k:Evb E bs (settle os F1 S).1 (settle os F1 S).2 r):Evb E (.free os::bs) F S r:=by
 obtain ⟨K1,h1⟩:=h
 obtain ⟨K2,h2⟩:=k
 exact ⟨max K1 K2,fun j hj=>by simp only [blks,h1 j (by omega),h2 j (by omega)]⟩
theorem Evb.call {f:Nat} {xs:List Opd} {d:Option Nat} {gd:Option (Nat×Bool)} {bs:List Blk} {F:Fr} {S:St} {r:Ex×Fr×St} {args:List V} {v:V} (hg:wanted F gd=some true) (ha:(xs.map fun x=>strip (evO F x))=args) (hl:lowL 0 args=true) (h:EvC E f args v) (hv:low 0 v=true)
  (k:Evb E bs (putO F d v) S r):Evb E (.seq ⟨d, .call f xs,gd⟩::bs) F S r:=by
 obtain ⟨K1,h1⟩:=h
 refine Evb.seq ⟨K1,fun j hj=>?_⟩ k
 simp only [seqOper,hg,seqOp,ha,hl,if_true,h1 j hj,hv]
theorem Evb.skip {o:AOper} {bs:List Blk} {F:Fr} {S:St} {r:Ex×Fr×St} (hg:wanted F o.gd=some false) (k:Evb E bs (putO F o.dst (.tup [])) S r):Evb E (.seq o::bs) F S r:=Evb.op (fun cE=>by simp only [seqOper,hg]) k
theorem EvC.fn {f:Nat} {af:AFunc} {args:List V} {v:V} {e:Ex} {F:Fr} {T:Lev} (hx:E.ext f=none) (hf:E.fn f=some af) (hn:args.length=af.np) (h:Ev E af.body (args0 args) [⟨[],none⟩] (e,F,[T])) (he:e=.ret∨e=.nrm) (hr:results F [T] af.res=some v) (hl:low 0 v=true):EvC E f args v:=by
 obtain ⟨K,h1⟩:=h
 refine ⟨K+1,fun j hj=>?_⟩
 obtain ⟨j,rfl⟩:∃ m,j=m+1:=⟨j - 1,by omega⟩
 simp only [callN,callBody,hx,hf,hn,if_true,h1 j j (by omega) (by omega)]
 rcases he with rfl | rfl<;>simp [leave,hr,hl]
end
end AM
end Go.Proofs.Ytimfbnojmdnlnaa
end
section
namespace Go.Proofs.Ytimfbnojmdnlnaa
namespace AM
section
variable {E:Env}
def EvQ (E:Env) (c:ACode) (F:Fr) (S:St) (Q:Ex→Fr→St→Prop):Prop:=∃ r,Ev E c F S r∧Q r.1 r.2.1 r.2.2
def EvbQ (E:Env) (bs:List Blk) (F:Fr) (S:St) (Q:Ex→Fr→St→Prop):Prop:=∃ r,Evb E bs F S r∧Q r.1 r.2.1 r.2.2
def EvfQ (E:Env) (all os:List AOper) (bs:List Blk) (F:Fr) (S:St) (Q:Ex→Fr→St→Prop):Prop:=∃ F1,(∃ K, ∀ j,K≤j→freeL (callN E j) S os F=some F1)∧EvbQ E bs (settle all F1 S).1 (settle all F1 S).2 Q
variable {F F1:Fr} {S S1:St} {Q:Ex→Fr→St→Prop} {bs:List Blk} {all os:List AOper} {d:Option Nat} {v:V}
theorem EvQ.nop (h:Q .nrm F S):EvQ E .nop F S Q:=⟨_,Ev.nop,h⟩
theorem EvQ.ret (h:Q .ret F S):EvQ E .ret F S Q:=⟨_,Ev.ret,h⟩
theorem EvQ.exit {id:Nat} (h:Q (.exit id) F S):EvQ E (.exit id) F S Q:=⟨_,Ev.exit,h⟩
theorem EvQ.seq {a b:ACode} (h:EvQ E a F S fun e F1 S1=>match e with | .nrm=>EvQ E b F1 S1 Q | e=>Q e F1 S1):EvQ E (.seq a b) F S Q:=by
 obtain ⟨⟨e,F1,S1⟩,h1,h2⟩:=h
 cases e with
 | nrm =>
  obtain ⟨r,h3,h4⟩:=h2
  exact ⟨r,h1.seq h3,h4⟩
 | _=>exact ⟨_,h1.seq_out (by simp),h2⟩
theorem EvQ.cond {c:Opd} {a b:ACode} (t:Bool) (hc:evO F c=.bool t) (h:EvQ E (if t=true then a else b) F S Q):EvQ E (.cond c a b) F S Q:=by
 obtain ⟨r,h1,h2⟩:=h
 exact ⟨r,Ev.cond t hc h1,h2⟩
theorem EvQ.blk {id:Nat} {a:ACode} (h:EvQ E a F S fun e F1 S1=>match e with | .exit j=>if j=id then Q .nrm F1 S1 else Q (.exit j) F1 S1 | e=>Q e F1 S1):EvQ E (.blk id a) F S Q:=by
 obtain ⟨⟨e,F1,S1⟩,h1,h2⟩:=h
 refine ⟨_,Ev.blk h1,?_⟩
 cases e with
 | exit j =>
  simp only at h2 ⊢
  split at h2
  ·rename_i hj; rw [if_pos hj]; exact h2
  ·rename_i hj; rw [if_neg hj]; exact h2
 | _=>exact h2
theorem EvQ.reg (h:EvbQ E bs F S Q):EvQ E (.reg bs) F S Q:=by
 obtain ⟨r,h1,h2⟩:=h
 exact ⟨r,Ev.reg h1,h2⟩
theorem EvQ.loop {a:ACode} (J:Nat→Fr→St→Prop) (step:∀ n F S,J n F S→EvQ E a F S fun e F1 S1=>match e with | .nrm=>∃ m,m < n∧J m F1 S1 | e=>Q e F1 S1):∀ n F S,J n F S→EvQ E (.loop a) F S Q:=by
 intro n
 induction n using Nat.strongRecOn with
 | _ n ih =>
  intro F S hJ
  obtain ⟨⟨e,F1,S1⟩,h1,h2⟩:=step n F S hJ
  cases e with
  | nrm =>
   obtain ⟨m,hm,hJ'⟩:=h2
   obtain ⟨r,h3,h4⟩:=ih m hm F1 S1 hJ'
   exact ⟨r,h1.loop h3,h4⟩
  | _=>exact ⟨_,h1.loop_out (by simp),h2⟩
theorem EvQ.mono {c:ACode} {Q':Ex→Fr→St→Prop} (h:EvQ E c F S Q) (hq:∀ e F S,Q e F S→Q' e F S):EvQ E c F S Q':=by
 obtain ⟨r,h1,h2⟩:=h
 exact ⟨r,h1,hq _ _ _ h2⟩
theorem EvbQ.nil (h:Q .nrm F S):EvbQ E [] F S Q:=⟨_,Evb.nil,h⟩
theorem EvbQ.op {o:AOper} (h:∀ cE,seqOper E.meth cE o F S=some (.ok F1 S1)) (k:EvbQ E bs F1 S1 Q):EvbQ E (.seq o::bs) F S Q:=by
 obtain ⟨r,h1,h2⟩:=k
 exact ⟨r,Evb.op h h1,h2⟩
theorem EvbQ.skip {o:AOper} (hg:wanted F o.gd=some false) (k:EvbQ E bs (putO F o.dst (.tup [])) S Q):EvbQ E (.seq o::bs) F S Q:=EvbQ.op (fun cE=>by simp only [seqOper,hg]) k
theorem EvbQ.call {f:Nat} {xs:List Opd} {gd:Option (Nat×Bool)} {args:List V} (hg:wanted F gd=some true) (ha:(xs.map fun x=>strip (evO F x))=args) (hl:lowL 0 args=true) (h:EvC E f args v) (hv:low 0 v=true)
  (k:EvbQ E bs (putO F d v) S Q):EvbQ E (.seq ⟨d, .call f xs,gd⟩::bs) F S Q:=by
 obtain ⟨r,h1,h2⟩:=k
 exact ⟨r,Evb.call hg ha hl h hv h1,h2⟩
theorem EvbQ.free (h:EvfQ E os os bs F S Q):EvbQ E (.free os::bs) F S Q:=by
 obtain ⟨F1,h1,r,h2,h3⟩:=h
 exact ⟨r,Evb.free h1 h2,h3⟩
theorem EvfQ.nil (h:EvbQ E bs (settle all F S).1 (settle all F S).2 Q):EvfQ E all [] bs F S Q:=⟨F,⟨0,fun _ _=>rfl⟩,h⟩
theorem EvfQ.op {o:AOper} (h:∀ cE,freeOper cE o F S=some F1) (k:EvfQ E all os bs F1 S Q):EvfQ E all (o::os) bs F S Q:=by
 obtain ⟨F2,⟨K,h1⟩,h2⟩:=k
 exact ⟨F2,⟨K,fun j hj=>by simp only [freeL,h,Option.bind_some,h1 j hj]⟩,h2⟩
end
end AM
end Go.Proofs.Ytimfbnojmdnlnaa
end
section
namespace Go.Proofs.Ytimfbnojmdnlnaa
namespace AM
section
variable {E:Env}
def EvS (E:Env) (f:Nat) (args:List V) (v:V):Prop:=∀ S, ∃ K, ∀ j,K≤j→callN E j (.fn f) args S=some (.ret v,S)
variable {F F1:Fr} {S S1 R:St} {Q:Ex→Fr→St→Prop} {bs:List Blk} {all os:List AOper} {v:V} {lp:Option Lp} {B:List (List V)}
theorem EvbQ.box {n d:Nat} {x:Opd} {cs:List V} (hc:cellsOf (strip (evO F x))=some cs) (hn:cs.length=n) (k:EvbQ E bs (put F d (.ptr R.length B.length 0)) (⟨B++[cs],lp⟩::R) Q):EvbQ E (.seq ⟨some d, .box n x,none⟩::bs) F (⟨B,lp⟩::R) Q :=
 EvbQ.op (fun cE=>by simp [seqOper,wanted,seqOp,hc,hn,putO]) k
theorem EvbQ.al {d:Nat} {z:List V} (k:EvbQ E bs (put F d (.ptr R.length B.length 0)) (⟨B++[z],lp⟩::R) Q):EvbQ E (.seq ⟨some d, .al z,none⟩::bs) F (⟨B,lp⟩::R) Q :=
 EvbQ.op (fun cE=>by simp [seqOper,wanted,seqOp,putO]) k
theorem EvbQ.fa {o d l i p:Nat} {x:Opd} {gd:Option (Nat×Bool)} (hg:wanted F gd=some true) (hx:evO F x=.ptr l i p) (k:EvbQ E bs (put F d (.ptr l i (p+o))) S Q):EvbQ E (.seq ⟨some d, .fa o x,gd⟩::bs) F S Q :=
 EvbQ.op (fun cE=>by simp [seqOper,hg,seqOp,valOp,hx,putO]) k
theorem EvbQ.callv {f d:Nat} {x:Opd} {xs:List Opd} {gd:Option (Nat×Bool)} {args:List V} (hg:wanted F gd=some true) (hx:evO F x=.func (.func f) []) (ha:(xs.map (evO F)).map strip=args) (ht:tames args=true) (h:EvS E f args v)
  (k:EvbQ E bs (put F d v) (⟨B,none⟩::R) Q):EvbQ E (.seq ⟨some d, .callv x xs,gd⟩::bs) F (⟨B,none⟩::R) Q:=by
 obtain ⟨r,h1,h2⟩:=k
 obtain ⟨K,hK⟩:=h (⟨B,none⟩::R)
 refine ⟨r,Evb.seq ⟨K,fun j hj=>?_⟩ h1,h2⟩
 simp [seqOper,hg,seqOp,hx,List.append_nil, ← ha] at *
 refine ⟨ht,?_⟩
 rw [hK j hj]
 rfl
end
end AM
end Go.Proofs.Ytimfbnojmdnlnaa
end
