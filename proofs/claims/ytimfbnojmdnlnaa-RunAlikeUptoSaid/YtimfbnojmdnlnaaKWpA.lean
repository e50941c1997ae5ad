/- What is left to do of a function's code: a stack of code, and equations by which simp goes through it. -/
import Derived.Test.YtimfbnojmdnlnaaKM2
set_option linter.all false
namespace Go.Proofs.Ytimfbnojmdnlnaa
namespace AM
namespace Wp
section
variable {E:Env}
def CallIs (E:Env) (c:Callee) (args:List V) (S:St) (o:Out) (S':St):Prop:=∃ K, ∀ j,K≤j→callN E j c args S=some (o,S')
def CallQ (E:Env) (c:Callee) (args:List V) (S:St) (Q:Out→St→Prop):Prop:=∃ o S',CallIs E c args S o S'∧Q o S'
theorem CallIs.q {c:Callee} {args:List V} {S:St} {o:Out} {S':St} {Q:Out→St→Prop} (h:CallIs E c args S o S'):CallQ E c args S Q=Q o S':=by
 apply propext
 constructor
 ·rintro ⟨o',S1,⟨K1,h1⟩,hq⟩
  obtain ⟨K,hK⟩:=h
  have:=h1 (max K K1) (by omega)
  rw [hK _ (by omega)] at this
  cases this
  exact hq
 ·exact fun hq=>⟨_,_,h,hq⟩
def pickO (c a b:V):Option V:=match c with | .bool t=>cp (if t=true then a else b) | _=>none
def rowO (e n m:Nat) (r:Option (List (List V))):Option V:=if m*n≤16777216∧0 < n then r.map fun xs=>.slice (.own e) xs else none
def ldO (S:St) (n:Nat) (g:Bool) (v:V):Option V :=
 match v with
 | .look cs=>(cutL cs 0 n).bind fun c=>ofCells g (c.map strip)
 | .ptr l i o=>(getBox S l i).bind fun cs=>(cutL cs o n).bind fun c=>ofCells g (c.map strip)
 | _=>none
def ncO (v:V):Option V:=match v with | .ptr l i o=>some (.ptr l i o) | .look cs=>some (.look cs) | _=>none
def cvO (k:IntKind) (v:V):Option V:=match v with | .int _ n=>some (.int k (k.wrap n)) | _=>none
def mkiO (t:Nat) (v:V):Option V:=if isCell v then some (.ifc t (strip v)) else (match v with | .agg cs=>some (.ifc t (.agg cs)) | _=>none)
def fnO (f:Nat) (vs:List V):Option V:=if tames vs=true then some (.func (.func f) (vs.map strip)) else none
def ondO (n:Nat):Option V→Option Nat
 | none=>some 0
 | some v=>natIn v n
def ondH (n:Nat):Option V→Option Nat
 | none=>some n
 | some v=>natIn v n
def cutO (n:Nat) (v:V) (lo hi:Option V):Option V :=
 match v with
 | .slice k xs=>if allLen n xs=true then (ondH xs.length hi).bind fun h=>(ondO h lo).bind fun l=>some (.slice (cutKind k) ((xs.take h).drop l)) else none
 | .bsl lv i o k m e=>if m=n then (ondH k hi).bind fun h=>(ondO h lo).bind fun l=>some (if l=0∨l < h then .bsl lv i (o+l*n) (h - l) n e else .slice .shut []) else none
 | _=>none
def scutO (v:V) (lo hi:Option V):Option V :=
 match v with
 | .str s=>(ondH s.size hi).bind fun h=>(ondO h lo).bind fun l=>some (.str (s.extract l h))
 | _=>none
def faO (o:Nat) (v:V):Option V:=match v with | .ptr l i p=>some (.ptr l i (p+o)) | .look cs=>if o≤cs.length then some (.look (cs.drop o)) else none | _=>none
def fdO (o n:Nat) (g:Bool) (v:V):Option V:=match v with | .agg cs=>(cutL cs o n).bind fun c=>ofCells g (c.map strip) | _=>none
def iaO (n:Nat) (v i:V):Option V :=
 match v,i with
 | .slice _ xs, .int _ j=>if 0≤j then (match xs[j.toNat]? with | some c=>if c.length=n then some (.look c) else none | none=>none) else none
 | .bsl l i' o k m e, .int _ j=>if 0≤j∧j < (k:Int)∧m=n then some (.ptr l i' (o+j.toNat*n)) else none
 | _,_=>none
def sxO (v i:V):Option V :=
 match v,i with
 | .str s, .int _ j=>if 0≤j then (match s.data.toList[j.toNat]? with | some b=>some (.int .u8 b.toNat) | none=>none) else none
 | _,_=>none
def axO (n len:Nat) (g:Bool) (v i:V):Option V :=
 match v,i with
 | .agg cs, .int _ j=>if 0≤j∧j < (len:Int) then (cutL cs (j.toNat*n) n).bind fun c=>ofCells g (c.map strip) else none
 | _,_=>none
def exO (i:Nat) (v:V):Option V:=match v with | .tup vs=>(vs[i]?).bind fun v=>cp v | _=>none
def lenO (s:Bool) (v:V):Option V:=match v with | .slice _ xs=>if s=false then some (.int .i64 xs.length) else none | .bsl _ _ _ k _ _=>if s=false then some (.int .i64 k) else none | .str b=>if s=true then some (.int .i64 b.size) else none | _=>none
def mmO (mx:Bool) (x y:V):Option V:=match x,y with | .int k a, .int k' b=>if k=k' then some (.int k (if mx then (if b > a then b else a) else (if b < a then b else a))) else none | _,_=>none
def isnO (neg:Bool) (v:V):Option V:=match v with | .slice k _=>some (.bool (isNilK k != neg)) | .bsl ..=>some (.bool (false != neg)) | _=>none
def valO (F:Fr) (S:St):AOp→Option V
 | .mv false x=>cp (evO F x)
 | .pick c a b=>pickO (evO F c) (evO F a) (evO F b)
 | .bld z ps=>(fill F z ps).map V.agg
 | .row e n ps=>rowO e n ps.length (rows F n ps)
 | .ld false n g x=>ldO S n g (evO F x)
 | .nc x=>ncO (evO F x)
 | .bin op tk x y=>bin op tk (evO F x) (evO F y)
 | .un op x=>un op (evO F x)
 | .cv k x=>cvO k (evO F x)
 | .mki t x=>mkiO t (evO F x)
 | .fn f cs=>fnO f (cs.map fun c=>evO F c)
 | .cut n x lo hi=>cutO n (evO F x) (lo.map (evO F)) (hi.map (evO F))
 | .scut x lo hi=>scutO (evO F x) (lo.map (evO F)) (hi.map (evO F))
 | .fa o x=>faO o (evO F x)
 | .fd o n g x=>fdO o n g (evO F x)
 | .ia n x i=>iaO n (evO F x) (evO F i)
 | .sx x i=>sxO (evO F x) (evO F i)
 | .ax n len g x i=>axO n len g (evO F x) (evO F i)
 | .ex x i=>exO i (evO F x)
 | .len s x=>lenO s (evO F x)
 | .mm mx x y=>mmO mx (evO F x) (evO F y)
 | .isn neg x=>isnO neg (evO F x)
 | _=>none
theorem bndHi_eq {F:Fr} {n:Nat} {hi:Option Opd}:bndHi F n hi=ondH n (hi.map (evO F)):=by cases hi<;>rfl
theorem bndLo_eq {F:Fr} {n:Nat} {lo:Option Opd}:bndLo F n lo=ondO n (lo.map (evO F)):=by cases lo<;>rfl
theorem map_ret {o:Option V} {v:V} (h:o=some v):o.map Out.ret=some (.ret v):=by rw [h]; rfl
theorem bind_ret {α:Type} {o:Option α} {f:α→Option V} {v:V} (h:o.bind f=some v):(o.bind fun a=>(f a).map Out.ret)=some (.ret v):=by
 cases o with
 | none=>cases h
 | some a=>exact map_ret h
theorem bind2_ret {α β:Type} {o:Option α} {p:α→Option β} {f:α→β→Option V} {v:V} (h:(o.bind fun a=>(p a).bind (f a))=some v):(o.bind fun a=>(p a).bind fun b=>(f a b).map Out.ret)=some (.ret v):=by
 cases o with
 | none=>cases h
 | some a=>exact bind_ret (o:=p a) h
theorem valO_ok {cE:CE} {F:Fr} {S:St} {op:AOp} {v:V} (h:valO F S op=some v):valOp cE F S op=some (.ret v):=by
 cases op with
 | mv k x=>cases k with
  | false=>exact map_ret h
  | true=>cases h
 | pick c a b =>
  simp only [valO,pickO] at h
  simp only [valOp]
  cases hc:evO F c<;>simp only [hc] at h ⊢<;>try (cases h; done)
  exact map_ret h
 | al z=>cases h
 | box n x=>cases h
 | bld z ps =>
  simp only [valO] at h
  simp only [valOp]
  cases hf:fill F z ps<;>simp [hf] at h ⊢
  exact h
 | row e n ps =>
  simp only [valO,rowO] at h
  simp only [valOp]
  split at h<;>try (cases h; done)
  rename_i hc
  rw [if_pos hc]
  cases hf:rows F n ps<;>simp [hf] at h ⊢
  exact h
 | ld k n g x=>cases k with
  | false =>
   simp only [valO,ldO] at h
   simp only [valOp]
   cases hx:evO F x<;>simp only [hx] at h ⊢<;>try (cases h; done)
   ·exact bind2_ret h
   ·exact bind_ret h
  | true=>cases h
 | st n x v=>cases h
 | nc x =>
  simp only [valO,ncO] at h
  simp only [valOp]
  cases hx:evO F x<;>simp only [hx] at h ⊢<;>first | (cases h; done) | (cases h; rfl)
 | bin op tk x y=>exact map_ret h
 | un op x=>exact map_ret h
 | cv k x =>
  simp only [valO,cvO] at h
  simp only [valOp]
  cases hx:evO F x<;>simp only [hx] at h ⊢<;>first | (cases h; done) | (cases h; rfl)
 | mki t x =>
  simp only [valO,mkiO] at h
  simp only [valOp]
  split at h
  ·rename_i hc; cases h; rw [if_pos hc]
  ·rename_i hc
   rw [if_neg hc]
   cases hx:evO F x<;>simp only [hx] at h ⊢<;>first | (cases h; done) | (cases h; rfl)
 | fn f cs =>
  simp only [valO,fnO] at h
  simp only [valOp]
  split at h<;>try (cases h; done)
  rename_i hc
  rw [if_pos hc]
  cases h
  simp [Function.comp_def]
 | cut n x lo hi =>
  simp only [valO,cutO] at h
  simp only [valOp,bndHi_eq,bndLo_eq]
  cases hx:evO F x<;>simp only [hx] at h ⊢<;>try (cases h; done)
  all_goals
   split at h<;>try (cases h; done)
   rename_i hc
   rw [if_pos hc]
   cases ho:ondH _ (hi.map (evO F))<;>simp only [ho,Option.bind_none,Option.bind_some] at h ⊢<;>try (cases h; done)
   cases hl:ondO _ (lo.map (evO F))<;>simp only [hl,Option.bind_none,Option.bind_some] at h ⊢<;>try (cases h; done)
   cases h; rfl
 | scut x lo hi =>
  simp only [valO,scutO] at h
  simp only [valOp,bndHi_eq,bndLo_eq]
  cases hx:evO F x<;>simp only [hx] at h ⊢<;>try (cases h; done)
  cases ho:ondH _ (hi.map (evO F))<;>simp only [ho,Option.bind_none,Option.bind_some] at h ⊢<;>try (cases h; done)
  cases hl:ondO _ (lo.map (evO F))<;>simp only [hl,Option.bind_none,Option.bind_some] at h ⊢<;>try (cases h; done)
  cases h; rfl
 | fa o x =>
  simp only [valO,faO] at h
  simp only [valOp]
  cases hx:evO F x<;>simp only [hx] at h ⊢<;>try (cases h; done)
  ·cases h; rfl
  ·split at h<;>try (cases h; done)
   rename_i hc; rw [if_pos hc]; cases h; rfl
 | fd o n g x =>
  simp only [valO,fdO] at h
  simp only [valOp]
  cases hx:evO F x<;>simp only [hx] at h ⊢<;>try (cases h; done)
  exact bind_ret h
 | ia n x i =>
  simp only [valO,iaO] at h
  simp only [valOp]
  split at h<;>try (cases h; done)
  ·rename_i hx hi
   split at h<;>try (cases h; done)
   rename_i hj
   split at h<;>try (cases h; done)
   rename_i hc
   split at h<;>try (cases h; done)
   rename_i hn
   cases h
   simp only [hx,hi,if_pos hj,hc,if_pos hn]
  ·rename_i hx hi
   split at h<;>try (cases h; done)
   rename_i hj
   cases h
   simp only [hx,hi,if_pos hj]
 | sx x i =>
  simp only [valO,sxO] at h
  simp only [valOp]
  split at h<;>try (cases h; done)
  rename_i hx hi
  split at h<;>try (cases h; done)
  rename_i hj
  split at h<;>try (cases h; done)
  rename_i hc
  cases h
  simp only [hx,hi,if_pos hj,hc]
 | ax n len g x i =>
  simp only [valO,axO] at h
  simp only [valOp]
  split at h<;>try (cases h; done)
  rename_i hx hi
  split at h<;>try (cases h; done)
  rename_i hj
  simp only [hx,hi,if_pos hj]
  exact bind_ret h
 | ex x i =>
  simp only [valO,exO] at h
  simp only [valOp]
  cases hx:evO F x<;>simp only [hx] at h ⊢<;>try (cases h; done)
  exact bind_ret h
 | len s x =>
  simp only [valO,lenO] at h
  simp only [valOp]
  cases hx:evO F x<;>simp only [hx] at h ⊢<;>try (cases h; done)
  all_goals
   split at h<;>try (cases h; done)
   rename_i hc; rw [if_pos hc]; cases h; rfl
 | app e n b x y=>cases h
 | mm mx x y =>
  simp only [valO,mmO] at h
  simp only [valOp]
  split at h<;>try (cases h; done)
  rename_i hx hy
  split at h<;>try (cases h; done)
  rename_i hc
  cases h
  simp only [hx,hy,if_pos hc]
 | isn neg x =>
  simp only [valO,isnO] at h
  simp only [valOp]
  cases hx:evO F x<;>simp only [hx] at h ⊢<;>first | (cases h; done) | (cases h; rfl)
 | call f xs=>cases h
 | callv x xs=>cases h
 | inv x m xs=>cases h
 | pan x=>cases h
 | mk e n b z x y=>cases h
 | appr e n b x y lv=>cases h
 | appb e n b x y=>cases h
 | rowr e n ps=>cases h
 | callw f xs=>cases h
 | callr f e m xs=>cases h
def isVal:AOp→Bool
 | .mv k _=>!k
 | .ld k _ _ _=>!k
 | .al _=>false
 | .box _ _=>false
 | .st _ _ _=>false
 | .app _ _ _ _ _=>false
 | .call _ _=>false
 | .callv _ _=>false
 | .inv _ _ _=>false
 | .pan _=>false
 | .mk ..=>false
 | .appr ..=>false
 | .appb ..=>false
 | .rowr ..=>false
 | .callw ..=>false
 | .callr ..=>false
 | _=>true
def backW (F:Fr) (d:Option Nat) (ok:Fr→St→Prop) (pan:V→St→Prop):Out→St→Prop
 | .ret v,⟨L,none⟩::R=>ok (putO F d v) (⟨L,none⟩::R)
 | .pan v,⟨L,none⟩::R=>pan v (⟨L,none⟩::R)
 | _,_=>False
def callK (E:Env) (f:Nat) (args:List V) (d:Option Nat) (F:Fr) (S:St) (ok:Fr→St→Prop) (pan:V→St→Prop):Prop :=
 if lowL 0 args=true then
  CallQ E (.fn f) args [] fun o _ =>
   match o with
   | .ret v=>low 0 v=true∧ok (putO F d v) S
   | .pan v=>low 0 v=true∧pan v S
   | .esc v L=>match S with
    | T::R=>bare v=true∧barest L=true∧ok (putO F d (reloc 0 R.length T.bs.length v)) ({ T with bs:=T.bs++L.map (relocL 0 R.length T.bs.length) }::R)
    | []=>False
 else tames args=true∧CallQ E (.fn f) args S (backW F d ok pan)
def callvK (E:Env) (x:V) (xs:List V) (d:Option Nat) (F:Fr) (S:St) (ok:Fr→St→Prop) (pan:V→St→Prop):Prop :=
 match x with
 | .func (.func f) cs=>tames ((xs++cs).map strip)=true∧CallQ E (.fn f) ((xs++cs).map strip) S (backW F d ok pan)
 | .func (.yield l) _=>tames (xs.map strip)=true∧CallQ E (.yield l) (xs.map strip) S (backW F d ok pan)
 | _=>False
def invK (E:Env) (x:V) (m:String) (xs:List V) (d:Option Nat) (F:Fr) (S:St) (ok:Fr→St→Prop) (pan:V→St→Prop):Prop :=
 match x with
 | .ifc t v=>∃ f,E.meth t m=some f∧tames ((v::xs).map strip)=true∧CallQ E (.fn f) ((v::xs).map strip) S (backW F d ok pan)
 | _=>False
def boxK (c:Option (List V)) (n:Nat) (d:Option Nat) (F:Fr) (S:St) (ok:Fr→St→Prop):Prop :=
 match S,c with
 | T::R,some cs=>cs.length=n∧ok (putO F d (.ptr R.length T.bs.length 0)) ({ T with bs:=T.bs++[cs] }::R)
 | _,_=>False
def ldtK (x:V) (n:Nat) (g:Bool) (d:Option Nat) (F:Fr) (S:St) (ok:Fr→St→Prop):Prop :=
 match x with
 | .ptr l i o =>
  match (getBox S l i).bind fun cs=>cs[o]? with
  | some (.slice (.own e) xs)=>n=1∧g=false∧ok (putO F d (.slice (.own e) xs)) (setBox S l i (((getBox S l i).getD []).set o (.slice .shut xs)))
  | _=>(ldO S n g (.ptr l i o)).isSome=true∧ok (putO F d ((ldO S n g (.ptr l i o)).getD .undef)) S
 | v=>(ldO S n g v).isSome=true∧ok (putO F d ((ldO S n g v).getD .undef)) S
def stK (x:V) (c:Option (List V)) (n:Nat) (F1:Fr) (S:St) (ok:Fr→St→Prop):Prop :=
 match x,c with
 | .ptr l i o,some vs=>(getBox S l i).isSome=true∧vs.length=n∧o+n≤((getBox S l i).getD []).length∧lowL (l+1) vs=true∧ok F1 (setBox S l i (setAt ((getBox S l i).getD []) o vs))
 | _,_=>False
def mkK (e n b:Nat) (z:List V) (x y:V) (d:Option Nat) (F:Fr) (S:St) (ok:Fr→St→Prop):Prop :=
 match S,x,y with
 | T::R, .int _ k, .int _ k'=>0≤k∧k'=k∧0 < n∧b*k.toNat≤281474976710656∧k≤281474976710656∧ok (putO F d (.bsl R.length T.bs.length 0 k.toNat n e)) ({ T with bs:=T.bs++[(List.replicate k.toNat z).flatten] }::R)
 | _,_,_=>False
def rowrK (e n k:Nat) (c:Nat→Option (List V)) (d:Option Nat) (F:Fr) (S:St) (ok:Fr→St→Prop):Prop :=
 match S with
 | T::R=>(k*n≤16777216∧0 < n∧0 < k)∧(match c (R.length+1) with | some cs=>ok (putO F d (.bsl R.length T.bs.length 0 k n e)) ({ T with bs:=T.bs++[cs] }::R) | none=>False)
 | []=>False
def apprK (e n b:Nat) (x:V) (ys:Option (List (List V))) (lv:Option Nat) (d:Option Nat) (F F1:Fr) (S:St) (ok:Fr→St→Prop):Prop :=
 match x,ys with
 | .slice k [],some ys =>
  (mayGrow k e 0=true∧0 < n∧ys.length*b≤140737488355328∧ys.length≤140737488355328) ∧
   (match k,ys with
   | .nil,[]=>ok (putO F d (.slice .nil [])) S
   | _,_=>(match lv with
    | some l=>lowL (l+1) ys.flatten=true∧noOwn ys.flatten=true∧ok (putO F1 d (.bsl l (lenAt S l) 0 ys.length n e)) (addBox S l ys.flatten)
    | none=>False))
 | .bsl l i o c m e',some ys =>
  (o=0∧m=n∧e'=e∧0 < n∧(c+ys.length)*b≤140737488355328∧c+ys.length≤140737488355328) ∧
   (match (getBox S l i).bind fun cs=>cutL cs 0 (c*n) with
   | some old=>noOwn old=true∧lowL (l+1) ys.flatten=true∧noOwn ys.flatten=true∧ok (putO F d (.bsl l (lenAt S l) 0 (c+ys.length) n e)) (addBox (setBox S l i dead) l (old++ys.flatten))
   | none=>False)
 | _,_=>False
def callwK (E:Env) (f:Nat) (args:Option (List V)) (d:Option Nat) (F:Fr) (S:St) (ok:Fr→St→Prop):Prop :=
 match args with
 | some args=>lowL 0 args=true∧CallQ E (.fn f) args [] fun o _=>match o with | .ret v=>flatW v=true∧ok (putO F d v) S | _=>False
 | none=>False
def callrP (e m:Nat) (d:Option Nat) (F:Fr) (S:St) (ok:Fr→St→Prop):Out→Prop
 | .ret (.slice (.own e') ys)=>(match S with
  | T::R=>e'=e∧0 < m∧flats ys.flatten=true∧ok (putO F d (.bsl R.length T.bs.length 0 ys.length m e)) ({ T with bs:=T.bs++[ys.flatten] }::R)
  | []=>False)
 | .ret (.slice .nil [])=>ok (putO F d (.slice .nil [])) S
 | _=>False
def callrK (E:Env) (f e m:Nat) (args:List V) (d:Option Nat) (F:Fr) (S:St) (ok:Fr→St→Prop):Prop:=lowL 0 args=true∧CallQ E (.fn f) args [] fun o _=>callrP e m d F S ok o
def Wn (E:Env) (d:Option Nat) (op:AOp) (F:Fr) (S:St) (ok:Fr→St→Prop) (pan:V→St→Prop):Prop :=
 match op with
 | .mv true (.t s)=>tame (F s)=true∧ok (putO (put F s (strip (F s))) d (F s)) S
 | .mv true (.c v)=>ok (putO F d v) S
 | .al z=>match S with
  | T::R=>ok (putO F d (.ptr R.length T.bs.length 0)) ({ T with bs:=T.bs++[z] }::R)
  | []=>False
 | .box n x=>boxK (cellsOf (strip (evO F x))) n d F S ok
 | .ld true n g x=>ldtK (evO F x) n g d F S ok
 | .st n x y=>stK (evO F x) (cellsOf (evO F y)) n (putO (unown F y) d (.tup [])) S ok
 | .app e n b x y=>(appOf F e n b x y).isSome=true∧ok (putO (unown F x) d ((appOf F e n b x y).getD .undef)) S
 | .mk e n b z x y=>mkK e n b z (evO F x) (evO F y) d F S ok
 | .rowr e n ps=>rowrK e n ps.length (fun l=>rowsB F l n ps) d F S ok
 | .appb e n b x y=>(appA F S e n b x y).isSome=true∧ok (putO (unown F x) d ((appA F S e n b x y).getD .undef)) S
 | .appr e n b x y lv=>apprK e n b (evO F x) (srcRows S n (evO F y)) (lvOf F S lv) d F (unown F x) S ok
 | .callw f xs=>callwK E f ((xs.map fun x=>evO F x).mapM (frz S 0 4)) d F S ok
 | .callr f e m xs=>callrK E f e m (xs.map fun x=>strip (evO F x)) d F S ok
 | .call f xs=>callK E f (xs.map fun x=>strip (evO F x)) d F S ok pan
 | .callv x xs=>callvK E (evO F x) (xs.map (evO F)) d F S ok pan
 | .inv x m xs=>invK E (evO F x) m (xs.map (evO F)) d F S ok pan
 | .pan x=>match evO F x with
  | .ifc t v=>low 0 (.ifc t v)=true∧pan (.ifc t v) S
  | _=>False
 | op=>(valO F S op).isSome=true∧ok (putO F d ((valO F S op).getD .undef)) S
def Wo (E:Env) (o:AOper) (F:Fr) (S:St) (ok:Fr→St→Prop) (pan:V→St→Prop):Prop :=
 match o.gd with
 | none=>Wn E o.dst o.op F S ok pan
 | some (t,b)=>F t≠.undef∧(F t=.bool b→Wn E o.dst o.op F S ok pan)∧(F t≠.bool b→ok (putO F o.dst (.tup [])) S)
def Does (E:Env) (o:AOper) (F:Fr) (S:St) (ok:Fr→St→Prop) (pan:V→St→Prop):Prop :=
 ∃ r,(∃ K, ∀ j,K≤j→seqOper E.meth (callN E j) o F S=some r)∧match r with | .ok F' S'=>ok F' S' | .pan v S'=>pan v S'
theorem getD_isSome {α:Type} {o:Option α} {z:α} (h:o.isSome=true):o=some (o.getD z):=by cases o<;>simp at h ⊢
theorem backW_ok {F:Fr} {d:Option Nat} {ok:Fr→St→Prop} {pan:V→St→Prop} {o:Out} {S:St} (h:backW F d ok pan o S):∃ r,back F d (some (o,S))=some r∧match r with | .ok F' S'=>ok F' S' | .pan v S'=>pan v S':=by
 unfold backW at h
 split at h
 ·exact ⟨_,rfl,h⟩
 ·exact ⟨_,rfl,h⟩
 ·exact h.elim
theorem seqOper_val {meth:Nat→String→Option Nat} {cE:CE} {d:Option Nat} {op:AOp} {gd:Option (Nat×Bool)} {F:Fr} {S:St} (hop:isVal op=true) (hg:wanted F gd=some true) :
  seqOper meth cE ⟨d,op,gd⟩ F S=match valOp cE F S op with | some (.ret v)=>some (.ok (putO F d v) S) | _=>none:=by
 cases op with
 | mv k x=>cases k with
  | false=>simp only [seqOper,hg,seqOp]; rfl
  | true=>cases hop
 | ld k n g x=>cases k with
  | false=>simp only [seqOper,hg,seqOp]; rfl
  | true=>cases hop
 | al z=>cases hop
 | box n x=>cases hop
 | st n x v=>cases hop
 | app e n b x y=>cases hop
 | call f xs=>cases hop
 | callv x xs=>cases hop
 | inv x m xs=>cases hop
 | pan x=>cases hop
 | mk e n b z x y=>cases hop
 | appr e n b x y lv=>cases hop
 | appb e n b x y=>cases hop
 | rowr e n ps=>cases hop
 | callw f xs=>cases hop
 | callr f e m xs=>cases hop
 | _=>simp only [seqOper,hg,seqOp]; rfl
theorem Wn_ok {d:Option Nat} {op:AOp} {F:Fr} {S:St} {ok:Fr→St→Prop} {pan:V→St→Prop} {gd:Option (Nat×Bool)} (hg:wanted F gd=some true) (h:Wn E d op F S ok pan):Does E ⟨d,op,gd⟩ F S ok pan:=by
 have gen:∀ {op:AOp},isVal op=true→(valO F S op).isSome=true∧ok (putO F d ((valO F S op).getD .undef)) S→Does E ⟨d,op,gd⟩ F S ok pan:=by
  intro op hop ⟨h1,h2⟩
  refine ⟨.ok (putO F d ((valO F S op).getD .undef)) S,⟨0,fun j _=>?_⟩,h2⟩
  rw [seqOper_val hop hg,valO_ok (getD_isSome (z:=V.undef) h1)]
 have one:∀ {op:AOp} {r:OR},(∀ cE,seqOper E.meth cE ⟨d,op,gd⟩ F S=some r)→(match r with | .ok F' S'=>ok F' S' | .pan v S'=>pan v S')→Does E ⟨d,op,gd⟩ F S ok pan :=
  fun h1 h2=>⟨_,⟨0,fun j _=>h1 _⟩,h2⟩
 cases op with
 | mv k x=>cases k with
  | false=>exact gen rfl h
  | true=>cases x with
   | t s =>
    obtain ⟨h1,h2⟩:=h
    exact one (r:=.ok (putO (put F s (strip (F s))) d (F s)) S) (fun cE=>by simp only [seqOper,hg,seqOp,h1,if_true]) h2
   | c v=>exact one (r:=.ok (putO F d v) S) (fun cE=>by simp only [seqOper,hg,seqOp]) h
 | al z =>
  simp only [Wn] at h
  split at h
  ·rename_i T R
   exact one (r:=.ok (putO F d (.ptr R.length T.bs.length 0)) ({ T with bs:=T.bs++[z] }::R)) (fun cE=>by simp only [seqOper,hg,seqOp]) h
  ·exact h.elim
 | box n x =>
  simp only [Wn,boxK] at h
  split at h
  ·rename_i T R cs hc
   obtain ⟨h1,h2⟩:=h
   exact one (r:=.ok (putO F d (.ptr R.length T.bs.length 0)) ({ T with bs:=T.bs++[cs] }::R)) (fun cE=>by simp only [seqOper,hg,seqOp,hc,h1,if_true]) h2
  ·exact h.elim
 | ld k n g x=>cases k with
  | false=>exact gen rfl h
  | true =>
   simp only [Wn,ldtK] at h
   have gen':(ldO S n g (evO F x)).isSome=true∧ok (putO F d ((ldO S n g (evO F x)).getD .undef)) S→(∀ cE,seqOper E.meth cE ⟨d, .ld true n g x,gd⟩ F S=match valOp cE F S (.ld false n g x) with | some (.ret v)=>some (.ok (putO F d v) S) | _=>none)→Does E ⟨d, .ld true n g x,gd⟩ F S ok pan:=by
    intro ⟨h1,h2⟩ h3
    refine one (r:=.ok (putO F d ((ldO S n g (evO F x)).getD .undef)) S) (fun cE=>?_) h2
    rw [h3,valO_ok (v:=(ldO S n g (evO F x)).getD .undef) (by show ldO S n g (evO F x)=_; exact getD_isSome h1)]
   split at h
   ·rename_i l i o hx
    split at h
    ·rename_i e xs hb
     obtain ⟨rfl,rfl,h3⟩:=h
     obtain ⟨cs,hcs,hb⟩:=Option.bind_eq_some_iff.1 hb
     refine one (r:=.ok (putO F d (.slice (.own e) xs)) (setBox S l i (((getBox S l i).getD []).set o (.slice .shut xs)))) (fun cE=>?_) h3
     simp [seqOper,hg,seqOp,hx,hcs,hb]
    ·rename_i hb
     rw [← hx] at h
     refine gen' h fun cE=>?_
     simp only [seqOper,hg,seqOp,hx]
     generalize ((getBox S l i).bind fun cs=>cs[o]?)=b at hb
     cases b with
     | none=>rfl
     | some v=>cases v with
      | slice k xs=>cases k with
       | own e=>exact (hb e xs rfl).elim
       | _=>rfl
      | _=>rfl
   ·rename_i hx
    refine gen' h fun cE=>?_
    simp only [seqOper,hg,seqOp]
    generalize hv:evO F x=v at hx
    cases v with
    | ptr l i o=>exact (hx l i o rfl).elim
    | _=>rfl
 | st n x y =>
  simp only [Wn,stK] at h
  split at h
  ·rename_i l i o vs hx hc
   obtain ⟨h1,h2,h3,h4,h5⟩:=h
   refine one (r:=.ok (putO (unown F y) d (.tup [])) (setBox S l i (setAt ((getBox S l i).getD []) o vs))) (fun cE=>?_) h5
   have hb:=getD_isSome (z:=[]) h1
   rw [hb] at h3
   simp only [Option.getD_some] at h3
   simp only [seqOper,hg,seqOp,hx,hc]
   rw [hb]
   simp [h2,h3,h4]
  ·exact h.elim
 | app e n b x y =>
  obtain ⟨h1,h2⟩:=h
  refine one (r:=.ok (putO (unown F x) d ((appOf F e n b x y).getD .undef)) S) (fun cE=>?_) h2
  simp only [seqOper,hg,seqOp]
  rw [getD_isSome (z:=V.undef) h1]; rfl
 | call f xs =>
  simp only [Wn,callK] at h
  split at h
  ·rename_i hl
   obtain ⟨o,S',⟨K,hK⟩,hq⟩:=h
   split at hq
   ·rename_i v
    obtain ⟨h1,h2⟩:=hq
    exact ⟨.ok (putO F d v) S,⟨K,fun j hj=>by simp only [seqOper,hg,seqOp,hl,if_true,hK j hj,h1]⟩,h2⟩
   ·rename_i v
    obtain ⟨h1,h2⟩:=hq
    exact ⟨.pan v S,⟨K,fun j hj=>by simp only [seqOper,hg,seqOp,hl,if_true,hK j hj,h1]⟩,h2⟩
   ·rename_i v L
    split at hq
    ·rename_i T R
     obtain ⟨h1,h2,h3⟩:=hq
     exact ⟨.ok (putO F d (reloc 0 R.length T.bs.length v)) ({ T with bs:=T.bs++L.map (relocL 0 R.length T.bs.length) }::R),⟨K,fun j hj=>by simp only [seqOper,hg,seqOp,hl,if_true,hK j hj,h1,h2,and_self]⟩,h3⟩
    ·exact hq.elim
  ·rename_i hl
   obtain ⟨ht,o,S',⟨K,hK⟩,hq⟩:=h
   obtain ⟨r,hr,hq⟩:=backW_ok hq
   refine ⟨r,⟨K,fun j hj=>?_⟩,hq⟩
   simp only [seqOper,hg,seqOp]
   rw [if_neg hl,if_pos ht,hK j hj,hr]
 | callv x xs =>
  simp only [Wn,callvK] at h
  split at h
  ·rename_i f cs hx
   obtain ⟨ht,o,S',⟨K,hK⟩,hq⟩:=h
   obtain ⟨r,hr,hq⟩:=backW_ok hq
   refine ⟨r,⟨K,fun j hj=>?_⟩,hq⟩
   simp only [seqOper,hg,seqOp,hx]
   rw [if_pos ht,hK j hj,hr]
  ·rename_i l cs hx
   obtain ⟨ht,o,S',⟨K,hK⟩,hq⟩:=h
   obtain ⟨r,hr,hq⟩:=backW_ok hq
   refine ⟨r,⟨K,fun j hj=>?_⟩,hq⟩
   simp only [seqOper,hg,seqOp,hx]
   rw [if_pos ht,hK j hj,hr]
  ·exact h.elim
 | inv x m xs =>
  simp only [Wn,invK] at h
  split at h
  ·rename_i t v hx
   obtain ⟨f,hf,ht,o,S',⟨K,hK⟩,hq⟩:=h
   obtain ⟨r,hr,hq⟩:=backW_ok hq
   refine ⟨r,⟨K,fun j hj=>?_⟩,hq⟩
   simp only [seqOper,hg,hx,hf]
   rw [if_pos ht,hK j hj,hr]
  ·exact h.elim
 | pan x =>
  simp only [Wn] at h
  split at h
  ·rename_i t v hx
   obtain ⟨h1,h2⟩:=h
   exact one (r:=.pan (.ifc t v) S) (fun cE=>by simp only [seqOper,hg,seqOp,hx,h1,if_true]) h2
  ·exact h.elim
 | mk e n b z x y =>
  simp only [Wn,mkK] at h
  split at h
  ·rename_i T R kx k ky k' hx hy
   obtain ⟨h1,h2,h3,h4,h5,h6⟩:=h
   exact one (r:=.ok (putO F d (.bsl R.length T.bs.length 0 k.toNat n e)) ({ T with bs:=T.bs++[(List.replicate k.toNat z).flatten] }::R)) (fun cE=>by
    simp only [seqOper,hg,seqOp,hx,hy]; rw [if_pos ⟨h1,h2,h3,h4,h5⟩]) h6
  ·exact h.elim
 | rowr e n ps =>
  simp only [Wn,rowrK] at h
  split at h
  ·rename_i T R
   obtain ⟨h1,h2⟩:=h
   split at h2
   ·rename_i cs hc
    exact one (r:=.ok (putO F d (.bsl R.length T.bs.length 0 ps.length n e)) ({ T with bs:=T.bs++[cs] }::R)) (fun cE=>by
     simp only [seqOper,hg,seqOp,hc]; rw [if_pos h1]; rfl) h2
   ·exact h2.elim
  ·exact h.elim
 | appb e n b x y =>
  obtain ⟨h1,h2⟩:=h
  refine one (r:=.ok (putO (unown F x) d ((appA F S e n b x y).getD .undef)) S) (fun cE=>?_) h2
  simp only [seqOper,hg,seqOp]
  rw [getD_isSome (z:=V.undef) h1]; rfl
 | appr e n b x y lv =>
  simp only [Wn,apprK] at h
  split at h
  ·rename_i k ys hx hs
   obtain ⟨h1,h2⟩:=h
   split at h2
   ·exact one (r:=.ok (putO F d (.slice .nil [])) S) (fun cE=>by simp only [seqOper,hg,seqOp,hx,hs]; rw [if_pos h1]) h2
   ·rename_i hnn
    split at h2
    ·rename_i l hl
     obtain ⟨h3,h4,h5⟩:=h2
     refine one (r:=.ok (putO (unown F x) d (.bsl l (lenAt S l) 0 ys.length n e)) (addBox S l ys.flatten)) (fun cE=>?_) h5
     simp only [seqOper,hg,seqOp,hx,hs]
     rw [if_pos h1]
     simp only [hl,Option.bind_some]
     rw [if_pos ⟨h3,h4⟩]
    ·exact h2.elim
  ·rename_i l i o c m e' ys hx hs
   obtain ⟨h1,h2⟩:=h
   split at h2
   ·rename_i old ho
    obtain ⟨h3,h4,h5,h6⟩:=h2
    obtain ⟨cs,hcs,hcut⟩:=Option.bind_eq_some_iff.1 ho
    refine one (r:=.ok (putO F d (.bsl l (lenAt S l) 0 (c+ys.length) n e)) (addBox (setBox S l i dead) l (old++ys.flatten))) (fun cE=>?_) h6
    simp only [seqOper,hg,seqOp,hx,hs]
    rw [if_pos h1]
    simp only [hcs,hcut,Option.bind_some]
    rw [if_pos ⟨h3,h4,h5⟩]
   ·exact h2.elim
  ·exact h.elim
 | callw f xs =>
  simp only [Wn,callwK] at h
  split at h
  ·rename_i args ha
   obtain ⟨h1,o,S',⟨K,hK⟩,hq⟩:=h
   split at hq
   ·rename_i v
    refine ⟨.ok (putO F d v) S,⟨K,fun j hj=>?_⟩,hq.2⟩
    simp only [seqOper,hg,seqOp,ha,Option.bind_some]
    rw [if_pos h1,hK j hj]
    simp only
    rw [if_pos hq.1]
   ·exact hq.elim
  ·exact h.elim
 | callr f e m xs =>
  obtain ⟨h1,o,S',⟨K,hK⟩,hq⟩:=h
  unfold callrP at hq
  split at hq
  ·rename_i e' ys
   split at hq
   ·rename_i T R
    obtain ⟨h2,h3,h4,h5⟩:=hq
    refine ⟨.ok (putO F d (.bsl R.length T.bs.length 0 ys.length m e)) ({ T with bs:=T.bs++[ys.flatten] }::R),⟨K,fun j hj=>?_⟩,h5⟩
    simp only [seqOper,hg,seqOp]
    rw [if_pos h1,hK j hj]
    simp only
    rw [if_pos ⟨h2,h3,h4⟩]
   ·exact hq.elim
  ·refine ⟨.ok (putO F d (.slice .nil [])) S,⟨K,fun j hj=>?_⟩,hq⟩
   simp only [seqOper,hg,seqOp]
   rw [if_pos h1,hK j hj]
  ·exact hq.elim
 | _=>exact gen rfl h
theorem Wo_ok {o:AOper} {F:Fr} {S:St} {ok:Fr→St→Prop} {pan:V→St→Prop} (h:Wo E o F S ok pan):Does E o F S ok pan:=by
 obtain ⟨d,op,gd⟩:=o
 cases gd with
 | none=>exact Wn_ok rfl h
 | some q =>
  obtain ⟨t,b⟩:=q
  obtain ⟨h1,h2,h3⟩:=h
  simp only at h1 h2 h3
  by_cases hb:F t=.bool b
  ·exact Wn_ok (by simp [wanted,hb]) (h2 hb)
  ·have hw:wanted F (some (t,b))=some false:=by
    simp only [wanted]
    cases hF:F t with
    | undef=>exact absurd hF h1
    | bool c=>simp only [Option.some.injEq,beq_eq_false_iff_ne,ne_eq]; rintro rfl; exact hb hF
    | _=>rfl
   exact ⟨.ok (putO F d (.tup [])) S,⟨0,fun j _=>by simp only [seqOper,hw]⟩,h3 hb⟩
def callFK (E:Env) (f:Nat) (args:List V) (S:St) (k:V→Prop):Prop :=
 if lowL 0 args=true then CallQ E (.fn f) args [] fun o _=>match o with | .ret v=>low 0 v=true∧k v | _=>False
 else tames args=true∧ownFree S=true∧CallQ E (.fn f) args S fun o S'=>match o with | .ret v=>low 0 v=true∧eqS S S'=true∧k v | _=>False
def callWK (E:Env) (f:Nat) (args:Option (List V)) (k:V→Prop):Prop :=
 match args with
 | some args=>lowL 0 args=true∧CallQ E (.fn f) args [] fun o _=>match o with | .ret v=>flatW v=true∧k v | _=>False
 | none=>False
def Wf (E:Env) (o:AOper) (F:Fr) (S:St) (ok:Fr→Prop):Prop :=
 match o.gd with
 | none=>Wfn E o.dst o.op F S ok
 | some (t,b)=>F t≠.undef∧(F t=.bool b→Wfn E o.dst o.op F S ok)∧(F t≠.bool b→ok (putO F o.dst (.tup [])))
 where
 Wfn (E:Env) (d:Option Nat) (op:AOp) (F:Fr) (S:St) (ok:Fr→Prop):Prop :=
  match op with
  | .mv true (.t s)=>tame (F s)=true∧ok (putO (put F s (strip (F s))) d (F s))
  | .mv true (.c v)=>ok (putO F d v)
  | .al z=>ok (putO F d (.fresh z))
  | .ld true n g x=>ldtF (evO F x) n g d F S ok
  | .app e n b x y=>(appOf F e n b x y).isSome=true∧ok (putO (unown F x) d ((appOf F e n b x y).getD .undef))
  | .st n (.t s) y=>stF (F s) (cellsOf (strip (evO F y))) n s d F ok
  | .call f xs=>callFK E f (xs.map fun x=>strip (evO F x)) S fun v=>ok (putO F d v)
  | .callw f xs=>callWK E f ((xs.map fun x=>evO F x).mapM (frz S 0 4)) fun v=>ok (putO F d v)
  | op=>(valO F S op).isSome=true∧ok (putO F d ((valO F S op).getD .undef))
 stF (x:V) (c:Option (List V)) (n s:Nat) (d:Option Nat) (F:Fr) (ok:Fr→Prop):Prop :=
  match x,c with
  | .fresh z,some vs=>vs.length=n∧n≤z.length∧lowL 0 vs=true∧d=none∧ok (put F s (.fresh (setAt z 0 vs)))
  | _,_=>False
 ldtF (x:V) (n:Nat) (g:Bool) (d:Option Nat) (F:Fr) (S:St) (ok:Fr→Prop):Prop :=
  match x with
  | .ptr l i o =>
   match (getBox S l i).bind fun cs=>cs[o]? with
   | some (.slice (.own e) xs)=>n=1∧g=false∧ok (putO F d (.mir l i o e xs))
   | _=>(ldO S n g (.ptr l i o)).isSome=true∧ok (putO F d ((ldO S n g (.ptr l i o)).getD .undef))
  | v=>(ldO S n g v).isSome=true∧ok (putO F d ((ldO S n g v).getD .undef))
theorem puts_outs {F:Fr} {d:Option Nat} {v:V}:puts (outs d v) F=putO F d v:=by cases d<;>rfl
theorem puts_unownW {F:Fr} {x:Opd} {d:Option Nat} {v:V}:puts (unownW F x++outs d v) F=putO (unown F x) d v:=by
 cases x<;>cases d<;>rfl
def DoesF (E:Env) (o:AOper) (F:Fr) (S:St) (ok:Fr→Prop):Prop:=∃ F1,(∃ K, ∀ j,K≤j→freeOper (callN E j) o F S=some F1)∧ok F1
theorem freeEff_val {cE:CE} {d:Option Nat} {op:AOp} {gd:Option (Nat×Bool)} {F:Fr} {S:St} (hop:isVal op=true) (hg:wanted F gd=some true) :
  freeEff cE ⟨d,op,gd⟩ F S=match valOp cE F S op with | some (.ret v)=>some (outs d v) | _=>none:=by
 cases op with
 | mv k x=>cases k with
  | false=>simp only [freeEff,hg]; rfl
  | true=>cases hop
 | ld k n g x=>cases k with
  | false=>simp only [freeEff,hg]; rfl
  | true=>cases hop
 | al z=>cases hop
 | box n x=>cases hop
 | st n x v=>cases hop
 | app e n b x y=>cases hop
 | call f xs=>cases hop
 | callv x xs=>cases hop
 | inv x m xs=>cases hop
 | pan x=>cases hop
 | mk e n b z x y=>cases hop
 | appr e n b x y lv=>cases hop
 | appb e n b x y=>cases hop
 | rowr e n ps=>cases hop
 | callw f xs=>cases hop
 | callr f e m xs=>cases hop
 | _=>simp only [freeEff,hg]; rfl
theorem Wfn_ok {d:Option Nat} {op:AOp} {F:Fr} {S:St} {ok:Fr→Prop} {gd:Option (Nat×Bool)} (hg:wanted F gd=some true) (h:Wf.Wfn E d op F S ok):DoesF E ⟨d,op,gd⟩ F S ok:=by
 have gen:∀ {op:AOp},isVal op=true→(valO F S op).isSome=true∧ok (putO F d ((valO F S op).getD .undef))→DoesF E ⟨d,op,gd⟩ F S ok:=by
  intro op hop ⟨h1,h2⟩
  refine ⟨_,⟨0,fun j _=>?_⟩,h2⟩
  simp only [freeOper]
  rw [freeEff_val hop hg,valO_ok (getD_isSome (z:=V.undef) h1)]
  simp only [Option.map_some,puts_outs]
 have one:∀ {op:AOp} {F1:Fr},(∀ cE,freeOper cE ⟨d,op,gd⟩ F S=some F1)→ok F1→DoesF E ⟨d,op,gd⟩ F S ok:=fun h1 h2=>⟨_,⟨0,fun j _=>h1 _⟩,h2⟩
 have none':(valO F S op).isSome=true→isVal op=false→False:=by
  intro h1 h2
  cases op with
  | mv k x=>cases k<;>first | (cases h2; done) | (cases h1; done)
  | ld k n g x=>cases k<;>first | (cases h2; done) | (cases h1; done)
  | _=>first | (cases h2; done) | (cases h1; done)
 cases op with
 | mv k x=>cases k with
  | false=>exact gen rfl h
  | true=>cases x with
   | t s =>
    obtain ⟨h1,h2⟩:=h
    exact one (F1:=putO (put F s (strip (F s))) d (F s)) (fun cE=>by simp only [freeOper,freeEff,hg,h1,if_true,Option.map_some,puts,puts_outs]) h2
   | c v=>exact one (F1:=putO F d v) (fun cE=>by simp only [freeOper,freeEff,hg,Option.map_some,puts_outs]) h
 | al z=>exact one (F1:=putO F d (.fresh z)) (fun cE=>by simp only [freeOper,freeEff,hg,Option.map_some,puts_outs]) h
 | box n x=>exact (none' h.1 rfl).elim
 | ld k n g x=>cases k with
  | false=>exact gen rfl h
  | true =>
   simp only [Wf.Wfn,Wf.ldtF] at h
   have gen':(ldO S n g (evO F x)).isSome=true∧ok (putO F d ((ldO S n g (evO F x)).getD .undef))→(∀ cE,freeEff cE ⟨d, .ld true n g x,gd⟩ F S=match valOp cE F S (.ld false n g x) with | some (.ret v)=>some (outs d v) | _=>none)→DoesF E ⟨d, .ld true n g x,gd⟩ F S ok:=by
    intro ⟨h1,h2⟩ h3
    refine one (F1:=putO F d ((ldO S n g (evO F x)).getD .undef)) (fun cE=>?_) h2
    simp only [freeOper]
    rw [h3,valO_ok (v:=(ldO S n g (evO F x)).getD .undef) (by show ldO S n g (evO F x)=_; exact getD_isSome h1)]
    simp only [Option.map_some,puts_outs]
   split at h
   ·rename_i l i o hx
    split at h
    ·rename_i e xs hb
     obtain ⟨rfl,rfl,h3⟩:=h
     refine one (F1:=putO F d (.mir l i o e xs)) (fun cE=>?_) h3
     simp only [freeOper,freeEff,hg,hx,hb,and_self,if_true,Option.map_some,puts_outs]
    ·rename_i hb
     rw [← hx] at h
     refine gen' h fun cE=>?_
     simp only [freeEff,hg,hx]
     generalize ((getBox S l i).bind fun cs=>cs[o]?)=b at hb
     cases b with
     | none=>rfl
     | some v=>cases v with
      | slice k xs=>cases k with
       | own e=>exact (hb e xs rfl).elim
       | _=>rfl
      | _=>rfl
   ·rename_i hx
    refine gen' h fun cE=>?_
    simp only [freeEff,hg]
    generalize hv:evO F x=v at hx
    cases v with
    | ptr l i o=>exact (hx l i o rfl).elim
    | _=>rfl
 | st n x y =>
  cases x with
  | c v=>exact (none' h.1 rfl).elim
  | t s =>
   simp only [Wf.Wfn,Wf.stF] at h
   split at h
   ·rename_i z vs hz hvs
    obtain ⟨h1,h2,h3,rfl,h5⟩:=h
    exact one (F1:=put F s (.fresh (setAt z 0 vs))) (fun cE=>by simp only [freeOper,freeEff,hg,hz,hvs,h1,h2,h3,and_self,if_true,Option.map_some,puts]) h5
   ·exact h.elim
 | app e n b x y =>
  obtain ⟨h1,h2⟩:=h
  refine one (F1:=putO (unown F x) d ((appOf F e n b x y).getD .undef)) (fun cE=>?_) h2
  simp only [freeOper,freeEff,hg]
  rw [getD_isSome (z:=V.undef) h1]
  simp only [Option.map_some,puts_unownW,Option.getD_some]
 | call f xs =>
  replace h:callFK E f (xs.map fun x=>strip (evO F x)) S (fun v=>ok (putO F d v)):=h
  unfold callFK at h
  split at h
  ·rename_i hl
   obtain ⟨o,S',⟨K,hK⟩,hq⟩:=h
   split at hq
   ·rename_i v
    obtain ⟨h1,h2⟩:=hq
    refine ⟨putO F d v,⟨K,fun j hj=>?_⟩,h2⟩
    simp only [freeOper,freeEff,hg,valOp,hl,if_true,hK j hj,h1,Option.map_some,puts_outs]
   ·exact hq.elim
  ·rename_i hl
   obtain ⟨ht,ho,o,S',⟨K,hK⟩,hq⟩:=h
   split at hq
   ·rename_i v
    obtain ⟨h1,h3,h2⟩:=hq
    refine ⟨putO F d v,⟨K,fun j hj=>?_⟩,h2⟩
    simp only [freeOper,freeEff,hg,hl,ht,ho,h3,if_true,if_false,hK j hj,h1,Option.map_some,puts_outs,and_self,Bool.false_eq_true]
   ·exact hq.elim
 | callv x xs=>exact (none' h.1 rfl).elim
 | inv x m xs=>exact (none' h.1 rfl).elim
 | pan x=>exact (none' h.1 rfl).elim
 | mk e n b z x y=>exact (none' h.1 rfl).elim
 | appr e n b x y lv=>exact (none' h.1 rfl).elim
 | appb e n b x y=>exact (none' h.1 rfl).elim
 | rowr e n ps=>exact (none' h.1 rfl).elim
 | callw f xs =>
  replace h:callWK E f ((xs.map fun x=>evO F x).mapM (frz S 0 4)) (fun v=>ok (putO F d v)):=h
  unfold callWK at h
  split at h
  ·rename_i args ha
   obtain ⟨hl,o,S',⟨K,hK⟩,hq⟩:=h
   split at hq
   ·rename_i v
    obtain ⟨h1,h2⟩:=hq
    refine ⟨putO F d v,⟨K,fun j hj=>?_⟩,h2⟩
    simp only [freeOper,freeEff,hg,ha,Option.bind_some,hl,if_true,hK j hj,h1,Option.map_some,puts_outs]
   ·exact hq.elim
  ·exact h.elim
 | callr f e m xs=>exact (none' h.1 rfl).elim
 | _=>exact gen rfl h
theorem Wf_ok {o:AOper} {F:Fr} {S:St} {ok:Fr→Prop} (h:Wf E o F S ok):DoesF E o F S ok:=by
 obtain ⟨d,op,gd⟩:=o
 cases gd with
 | none=>exact Wfn_ok rfl h
 | some q =>
  obtain ⟨t,b⟩:=q
  obtain ⟨h1,h2,h3⟩:=h
  simp only at h1 h2 h3
  by_cases hb:F t=.bool b
  ·exact Wfn_ok (by simp [wanted,hb]) (h2 hb)
  ·have hw:wanted F (some (t,b))=some false:=by
    simp only [wanted]
    cases hF:F t with
    | undef=>exact absurd hF h1
    | bool c=>simp only [Option.some.injEq,beq_eq_false_iff_ne,ne_eq]; rintro rfl; exact hb hF
    | _=>rfl
   exact ⟨putO F d (.tup []),⟨0,fun j _=>by simp only [freeOper,freeEff,hw,Option.map_some,puts_outs]⟩,h3 hb⟩
def WfL (E:Env) (all:List AOper):List AOper→Fr→St→(Fr→St→Prop)→Prop
 | [],F,S,ok=>ok (settle all F S).1 (settle all F S).2
 | o::os,F,S,ok=>Wf E o F S fun F=>WfL E all os F S ok
def Wb (E:Env):List Blk→Fr→St→(Ex→Fr→St→Prop)→Prop
 | [],F,S,Q=>Q .nrm F S
 | .seq o::bs,F,S,Q=>Wo E o F S (fun F S=>Wb E bs F S Q) (fun v S=>Q (.pan v) F S)
 | .free os::bs,F,S,Q=>WfL E os os F S fun F S=>Wb E bs F S Q
 | .fre os::bs,F,S,Q=>EvbQ E (.fre os::bs) F S Q
 | .chn os::bs,F,S,Q=>EvbQ E (.chn os::bs) F S Q
def W (E:Env):ACode→Fr→St→(Ex→Fr→St→Prop)→Prop
 | .nop,F,S,Q=>Q .nrm F S
 | .reg bs,F,S,Q=>Wb E bs F S Q
 | .seq a b,F,S,Q=>W E a F S fun e F S=>match e with | .nrm=>W E b F S Q | e=>Q e F S
 | .cond c a b,F,S,Q=>match evO F c with | .bool t=>if t=true then W E a F S Q else W E b F S Q | _=>False
 | .blk id a,F,S,Q=>W E a F S fun e F S=>match e with | .exit j=>if j=id then Q .nrm F S else Q (.exit j) F S | e=>Q e F S
 | .loop a,F,S,Q=>EvQ E (.loop a) F S Q
 | .exit id,F,S,Q=>Q (.exit id) F S
 | .ret,F,S,Q=>Q .ret F S
 | .rng x ps asg body,F,S,Q=>EvQ E (.rng x ps asg body) F S Q
theorem WfL_ok {all:List AOper}:∀ {os:List AOper} {F:Fr} {S:St} {bs:List Blk} {Q:Ex→Fr→St→Prop},WfL E all os F S (fun F S=>EvbQ E bs F S Q)→EvfQ E all os bs F S Q
 | [],F,S,bs,Q,h=>EvfQ.nil h
 | o::os,F,S,bs,Q,h=>by
  obtain ⟨F1,⟨K1,h1⟩,h2⟩:=Wf_ok h
  obtain ⟨F2,⟨K,h3⟩,h4⟩:=WfL_ok h2
  exact ⟨F2,⟨max K K1,fun j hj=>by simp only [freeL,h1 j (by omega),Option.bind_some,h3 j (by omega)]⟩,h4⟩
theorem callFK_mono {f:Nat} {args:List V} {S:St} {k k':V→Prop} (h:callFK E f args S k) (hm:∀ v,k v→k' v):callFK E f args S k':=by
 unfold callFK at h ⊢
 split at h
 ·rename_i hl
  rw [if_pos hl]
  obtain ⟨o,S',h2,h3⟩:=h
  refine ⟨o,S',h2,?_⟩
  split at h3
  ·exact ⟨h3.1,hm _ h3.2⟩
  ·exact h3.elim
 ·rename_i hl
  rw [if_neg hl]
  obtain ⟨h0,h1,o,S',h2,h3⟩:=h
  refine ⟨h0,h1,o,S',h2,?_⟩
  split at h3
  ·exact ⟨h3.1,h3.2.1,hm _ h3.2.2⟩
  ·exact h3.elim
theorem callWK_mono {f:Nat} {args:Option (List V)} {k k':V→Prop} (h:callWK E f args k) (hm:∀ v,k v→k' v):callWK E f args k':=by
 unfold callWK at h ⊢
 split at h
 ·obtain ⟨hl,o,S',h2,h3⟩:=h
  refine ⟨hl,o,S',h2,?_⟩
  split at h3
  ·exact ⟨h3.1,hm _ h3.2⟩
  ·exact h3.elim
 ·exact h.elim
theorem Wf_mono {o:AOper} {F:Fr} {S:St} {ok ok':Fr→Prop} (h:Wf E o F S ok) (hm:∀ F,ok F→ok' F):Wf E o F S ok':=by
 have hn:∀ {d op},Wf.Wfn E d op F S ok→Wf.Wfn E d op F S ok':=by
  intro d op h
  unfold Wf.Wfn at h ⊢
  split at h
  ·exact ⟨h.1,hm _ h.2⟩
  ·exact hm _ h
  ·exact hm _ h
  ·unfold Wf.ldtF at h ⊢
   split at h
   ·split at h
    ·exact ⟨h.1,h.2.1,hm _ h.2.2⟩
    ·exact ⟨h.1,hm _ h.2⟩
   ·rename_i hx
    exact ⟨h.1,hm _ h.2⟩
  ·exact ⟨h.1,hm _ h.2⟩
  ·unfold Wf.stF at h ⊢
   split at h
   ·exact ⟨h.1,h.2.1,h.2.2.1,h.2.2.2.1,hm _ h.2.2.2.2⟩
   ·exact h.elim
  ·exact callFK_mono h fun v=>hm _
  ·exact callWK_mono h fun v=>hm _
  ·exact ⟨h.1,hm _ h.2⟩
 unfold Wf at h ⊢
 split at h
 ·exact hn h
 ·exact ⟨h.1,fun hb=>hn (h.2.1 hb),fun hb=>hm _ (h.2.2 hb)⟩
theorem WfL_mono {all:List AOper}:∀ {os:List AOper} {F:Fr} {S:St} {ok ok':Fr→St→Prop},WfL E all os F S ok→(∀ F S,ok F S→ok' F S)→WfL E all os F S ok'
 | [],F,S,ok,ok',h,hm=>hm _ _ h
 | o::os,F,S,ok,ok',h,hm=>Wf_mono h fun F h=>WfL_mono h hm
theorem Wb_ok:∀ {bs:List Blk} {F:Fr} {S:St} {Q:Ex→Fr→St→Prop},Wb E bs F S Q→EvbQ E bs F S Q
 | [],F,S,Q,h=>EvbQ.nil h
 | .seq o::bs,F,S,Q,h=>by
  obtain ⟨r,⟨K,h1⟩,h2⟩:=Wo_ok h
  cases r with
  | ok F1 S1 =>
   obtain ⟨r,h3,h4⟩:=Wb_ok h2
   exact ⟨r,Evb.seq ⟨K,h1⟩ h3,h4⟩
  | pan v S1=>exact ⟨(.pan v,F,S1),⟨K,fun j hj=>by simp only [blks,h1 j hj]⟩,h2⟩
 | .free os::bs,F,S,Q,h=>EvbQ.free (WfL_ok (WfL_mono h fun F S h=>Wb_ok h))
 | .fre os::bs,F,S,Q,h=>h
 | .chn os::bs,F,S,Q,h=>h
theorem W_ok:∀ {c:ACode} {F:Fr} {S:St} {Q:Ex→Fr→St→Prop},W E c F S Q→EvQ E c F S Q
 | .nop,F,S,Q,h=>EvQ.nop h
 | .reg bs,F,S,Q,h=>EvQ.reg (Wb_ok h)
 | .seq a b,F,S,Q,h=>EvQ.seq (EvQ.mono (W_ok (c:=a) h) fun e F S h=>by cases e<;>first | exact W_ok h | exact h)
 | .cond c a b,F,S,Q,h=>by
  simp only [W] at h
  split at h
  ·rename_i t ht
   refine EvQ.cond t ht ?_
   split at h
   ·rename_i ht; rw [if_pos ht]; exact W_ok h
   ·rename_i ht; rw [if_neg ht]; exact W_ok h
  ·exact h.elim
 | .blk id a,F,S,Q,h=>EvQ.blk (W_ok h)
 | .loop a,F,S,Q,h=>h
 | .exit id,F,S,Q,h=>EvQ.exit h
 | .ret,F,S,Q,h=>EvQ.ret h
 | .rng x ps asg body,F,S,Q,h=>h
end
end Wp
end AM
end Go.Proofs.Ytimfbnojmdnlnaa
