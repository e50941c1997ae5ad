/- An abstract machine for Go code: values are trees, slices are lists of elements, variables in memory are boxes in levels; an evaluator with fuel. Definitions alone. -/
import GoSem.Dispatch
set_option linter.all false
namespace Go.Proofs.Ytimfbnojmdnlnaa
namespace AM
inductive SK where
 | nil | shut | own (e:Nat)
inductive V where
 | undef
 | bool (b:Bool)
 | int (k:IntKind) (n:Int)
 | str (s:ByteArray)
 | ptr (l i o:Nat)
 | nilp
 | look (cs:List V)
 | slice (k:SK) (xs:List (List V))
 | func (f:Fn) (cs:List V)
 | nilf
 | ifc (t:Nat) (v:V)
 | nili
 | agg (cs:List V)
 | tup (vs:List V)
 | fresh (cs:List V)
 | mir (l i o e:Nat) (xs:List (List V))
 | bsl (l i o n m e:Nat)
def strip:V→V
 | .slice (.own _) xs=>.slice .shut xs
 | v=>v
def calm:V→V
 | .fresh _=>.undef
 | .mir ..=>.undef
 | v=>strip v
def cp:V→Option V
 | .fresh _=>none
 | .mir _ _ _ _ xs=>some (.slice .shut xs)
 | v=>some (strip v)
def tame:V→Bool
 | .fresh _=>false
 | .mir ..=>false
 | _=>true
def tames:List V→Bool
 | []=>true
 | v::vs=>tame v&&tames vs
mutual
def low (n:Nat):V→Bool
 | .ptr l _ _=>decide (l < n)
 | .bsl l _ _ _ _ _=>decide (l < n)
 | .func f cs=>(match f with | .func _=>true | .yield l=>decide (l+1 < n) | _=>false)&&lowL n cs
 | .ifc _ v=>low n v
 | .agg cs=>lowL n cs
 | .tup cs=>lowL n cs
 | .undef=>false
 | .fresh _=>false
 | .mir ..=>false
 | _=>true
def lowL (n:Nat):List V→Bool
 | []=>true
 | c::cs=>low n c&&lowL n cs
end
def isCell:V→Bool
 | .undef=>false
 | .agg _=>false
 | .tup _=>false
 | .fresh _=>false
 | .mir ..=>false
 | _=>true
def isCells:List V→Bool
 | []=>true
 | c::cs=>isCell c&&isCells cs
def cellsOf:V→Option (List V)
 | .agg cs=>some (cs.map strip)
 | v=>if isCell v then some [v] else none
def ofCell:Value→Option V
 | .bool b=>some (.bool b)
 | .int k n=>some (.int k n)
 | .string s=>some (.str s)
 | .pointer none=>some .nilp
 | .slice none 0 0=>some (.slice .nil [])
 | .nilFunc=>some .nilf
 | .nilIface=>some .nili
 | _=>none
def ofValue:Value→Option V
 | .agg cs=>(cs.toList.mapM ofCell).map V.agg
 | v=>ofCell v
inductive Opd where
 | t (n:Nat)
 | c (v:V)
inductive AOp where
 | mv (k:Bool) (x:Opd)
 | pick (c a b:Opd)
 | al (z:List V)
 | box (n:Nat) (x:Opd)
 | bld (z:List V) (ps:List (Nat×Nat×Opd))
 | row (e n:Nat) (ps:List Opd)
 | mk (e n b:Nat) (z:List V) (x y:Opd)
 | ld (k:Bool) (n:Nat) (g:Bool) (x:Opd)
 | st (n:Nat) (x v:Opd)
 | nc (x:Opd)
 | bin (op:BinOp) (tk:Nat) (x y:Opd)
 | un (op:UnOp) (x:Opd)
 | cv (k:IntKind) (x:Opd)
 | mki (t:Nat) (x:Opd)
 | fn (f:Nat) (cs:List Opd)
 | cut (n:Nat) (x:Opd) (lo hi:Option Opd)
 | scut (x:Opd) (lo hi:Option Opd)
 | fa (o:Nat) (x:Opd)
 | fd (o n:Nat) (g:Bool) (x:Opd)
 | ia (n:Nat) (x i:Opd)
 | sx (x i:Opd)
 | ax (n len:Nat) (g:Bool) (x i:Opd)
 | ex (x:Opd) (i:Nat)
 | len (s:Bool) (x:Opd)
 | app (e n b:Nat) (x y:Opd)
 | appr (e n b:Nat) (x y:Opd) (lv:Option Nat)
 | appb (e n b:Nat) (x y:Opd)
 | rowr (e n:Nat) (ps:List Opd)
 | mm (mx:Bool) (x y:Opd)
 | isn (neg:Bool) (x:Opd)
 | call (f:Nat) (xs:List Opd)
 | callw (f:Nat) (xs:List Opd)
 | callr (f e m:Nat) (xs:List Opd)
 | callv (x:Opd) (xs:List Opd)
 | inv (x:Opd) (m:String) (xs:List Opd)
 | pan (x:Opd)
structure AOper where
 dst:Option Nat
 op:AOp
 gd:Option (Nat×Bool)
inductive Blk where
 | seq (o:AOper)
 | free (os:List AOper)
 | fre (os:List AOper)
 | chn (os:List AOper)
inductive ACode where
 | nop
 | reg (bs:List Blk)
 | seq (a b:ACode)
 | cond (c:Opd) (a b:ACode)
 | blk (id:Nat) (a:ACode)
 | loop (a:ACode)
 | exit (id:Nat)
 | ret
 | rng (x:Opd) (ps:List Nat) (asg body:ACode)
inductive Ex where
 | nrm
 | exit (id:Nat)
 | ret
 | pan (v:V)
def noRng:ACode→Bool
 | .seq a b=>noRng a&&noRng b
 | .cond _ a b=>noRng a&&noRng b
 | .blk _ a=>noRng a
 | .loop a=>noRng a
 | .rng ..=>false
 | _=>true
abbrev Fr:=Nat→V
def put (F:Fr) (d:Nat) (v:V):Fr:=fun t=>if t=d then v else F t
def putO (F:Fr) (d:Option Nat) (v:V):Fr:=match d with | some d=>put F d v | none=>F
structure Lp where
 fr:Fr
 ps:List Nat
 asg:ACode
 body:ACode
 jump:Option Ex
structure Lev where
 bs:List (List V)
 lp:Option Lp
abbrev St:=List Lev
def dead:List V:=[.undef, .undef, .undef, .undef, .undef, .undef, .undef]
def isUndef:V→Bool
 | .undef=>true
 | _=>false
def dz:Option (List V)→Option (List V)
 | some cs=>cond (Nat.beq cs.length 7&&cs.all isUndef) none (some cs)
 | none=>none
def getBox:St→Nat→Nat→Option (List V)
 | [],_,_=>none
 | L::S,l,i=>if l=S.length then dz L.bs[i]? else getBox S l i
def lenAt:St→Nat→Nat
 | [],_=>0
 | L::S,l=>if l=S.length then L.bs.length else lenAt S l
def addBox:St→Nat→List V→St
 | [],_,_=>[]
 | L::S,l,z=>if l=S.length then { L with bs:=L.bs++[z] }::S else L::addBox S l z
def setBox:St→Nat→Nat→List V→St
 | [],_,_,_=>[]
 | L::S,l,i,cs=>if l=S.length then { L with bs:=L.bs.set i cs }::S else L::setBox S l i cs
def getLp:St→Nat→Option Lp
 | [],_=>none
 | L::S,l=>if l=S.length then L.lp else getLp S l
def setLp:St→Nat→Option Lp→St
 | [],_,_=>[]
 | L::S,l,p=>if l=S.length then { L with lp:=p }::S else L::setLp S l p
inductive Out where
 | ret (v:V)
 | pan (v:V)
 | esc (v:V) (L:List (List V))
inductive Callee where
 | fn (f:Nat)
 | yield (l:Nat)
abbrev CE:=Callee→List V→St→Option (Out×St)
def evO (F:Fr):Opd→V
 | .t n=>F n
 | .c v=>v
def cutL {α:Type} (xs:List α) (o n:Nat):Option (List α) :=
 if o+n≤xs.length then some ((xs.drop o).take n) else none
def ofCells (g:Bool) (cs:List V):Option V :=
 if g then some (.agg cs) else match cs with | [v]=>some v | _=>none
def setAt:List V→Nat→List V→List V
 | xs,o,vs=>xs.take o++vs++xs.drop (o+vs.length)
def fill (F:Fr) (cs:List V):List (Nat×Nat×Opd)→Option (List V)
 | []=>some cs
 | (o,n,x)::ps =>
  match cellsOf (strip (evO F x)) with
  | some vs=>if vs.length=n∧o+n≤cs.length then fill F (setAt cs o vs) ps else none
  | none=>none
def chunk (m n:Nat) (cs:List V):List (List V):=(List.range n).map fun j=>(cs.drop (j*m)).take m
def frz (S:St) (lo:Nat):Nat→V→Option V
 | 0,_=>none
 | k+1,v =>
  match v with
  | .bsl l i o n m e =>
   if l < lo then some (.bsl l i o n m e)
   else if n=0 then some (.slice .shut [])
   else (getBox S l i).bind fun cs=>(cutL cs o (n*m)).bind fun c=>(c.mapM (frz S lo k)).bind fun c'=>if 0 < m∧lowL 0 c'=true then some (.slice .shut (chunk m n c')) else none
  | .agg cs=>(cs.mapM (frz S lo k)).map .agg
  | .tup cs=>(cs.mapM (frz S lo k)).map .tup
  | v=>some (strip v)
def flat:V→Bool
 | .bool _=>true
 | .int _ _=>true
 | .str _=>true
 | .slice .nil []=>true
 | _=>false
def flats (cs:List V):Bool:=cs.all flat
def flatV:V→Bool
 | .agg cs=>flats cs
 | .tup cs=>flats cs
 | v=>flat v
def flatW:V→Bool
 | .slice (.own _) xs=>flats xs.flatten
 | v=>flatV v
def rows (F:Fr) (n:Nat):List Opd→Option (List (List V))
 | []=>some []
 | x::xs =>
  match cellsOf (strip (evO F x)) with
  | some vs=>if vs.length=n∧lowL 0 vs=true then (rows F n xs).map (vs::·) else none
  | none=>none
def arith (op:BinOp) (k:IntKind) (a b:Int):Option V :=
 match op with
 | .add=>some (.int k (k.wrap (a+b)))
 | .sub=>some (.int k (k.wrap (a - b)))
 | .mul=>some (.int k (k.wrap (a*b)))
 | .quo=>if b=0 then none else some (.int k (k.wrap (a.tdiv b)))
 | .rem=>if b=0 then none else some (.int k (a.tmod b))
 | .eql=>some (.bool (a == b))
 | .neq=>some (.bool (a != b))
 | .lss=>some (.bool (decide (a < b)))
 | .leq=>some (.bool (decide (a≤b)))
 | .gtr=>some (.bool (decide (a > b)))
 | .geq=>some (.bool (decide (a ≥ b)))
 | .and=>some (.int k (k.wrap (BitVec.ofInt k.bits a &&& BitVec.ofInt k.bits b).toNat))
 | _=>none
def bin (op:BinOp) (tk:Nat) (x y:V):Option V :=
 match x,y with
 | .int k a, .int k' b=>if k=k' then arith op k a b else none
 | .str a, .str b =>
  match op with
  | .eql=>some (.bool (a.toList == b.toList))
  | .neq=>some (.bool (!(a.toList == b.toList)))
  | .add=>if a.size+b.size≤140737488355328 then some (.str (a++b)) else none
  | _=>none
 | .bool a, .bool b =>
  if tk=1 then (match op with | .eql=>some (.bool (a == b)) | .neq=>some (.bool (!(a == b))) | _=>none) else none
 | _,_=>none
def un (op:UnOp) (x:V):Option V :=
 match op,x with
 | .neg, .int k n=>some (.int k (k.wrap (0 - n)))
 | .not, .bool b=>some (.bool (!b))
 | _,_=>none
def natIn (x:V) (n:Nat):Option Nat :=
 match x with
 | .int _ i=>if 0≤i∧i≤(n:Int) then some i.toNat else none
 | _=>none
def bndLo (F:Fr) (n:Nat):Option Opd→Option Nat
 | none=>some 0
 | some x=>natIn (evO F x) n
def bndHi (F:Fr) (n:Nat):Option Opd→Option Nat
 | none=>some n
 | some x=>natIn (evO F x) n
def cutKind:SK→SK
 | .nil=>.nil
 | _=>.shut
def mayGrow (k:SK) (e n:Nat):Bool :=
 match k with
 | .nil=>n == 0
 | .own e'=>e' == e
 | .shut=>false
def isNilK:SK→Bool
 | .nil=>true
 | _=>false
def allLen (n:Nat) (xs:List (List V)):Bool:=xs.all fun r=>r.length == n
def valOp (cE:CE) (F:Fr) (S:St):AOp→Option Out
 | .mv false x=>(cp (evO F x)).map .ret
 | .pick c a b=>match evO F c with | .bool t=>(cp (if t then evO F a else evO F b)).map .ret | _=>none
 | .bld z ps=>(fill F z ps).map fun cs=>.ret (.agg cs)
 | .row e n ps=>if ps.length*n≤16777216∧0 < n then (rows F n ps).map fun xs=>.ret (.slice (.own e) xs) else none
 | .ld false n g x =>
  match evO F x with
  | .look cs=>(cutL cs 0 n).bind fun c=>(ofCells g (c.map strip)).map .ret
  | .ptr l i o=>(getBox S l i).bind fun cs=>(cutL cs o n).bind fun c=>(ofCells g (c.map strip)).map .ret
  | _=>none
 | .nc x=>match evO F x with | .ptr l i o=>some (.ret (.ptr l i o)) | .look cs=>some (.ret (.look cs)) | _=>none
 | .bin op tk x y=>(bin op tk (evO F x) (evO F y)).map .ret
 | .un op x=>(un op (evO F x)).map .ret
 | .cv k x=>match evO F x with | .int _ n=>some (.ret (.int k (k.wrap n))) | _=>none
 | .mki t x=>if isCell (evO F x) then some (.ret (.ifc t (strip (evO F x)))) else (match evO F x with | .agg cs=>some (.ret (.ifc t (.agg cs))) | _=>none)
 | .fn f cs=>if tames (cs.map fun c=>evO F c)=true then some (.ret (.func (.func f) (cs.map fun c=>strip (evO F c)))) else none
 | .cut n x lo hi =>
  match evO F x with
  | .slice k xs=>if allLen n xs=true then (bndHi F xs.length hi).bind fun h=>(bndLo F h lo).bind fun l=>some (.ret (.slice (cutKind k) ((xs.take h).drop l))) else none
  | .bsl lv i o k m e=>if m=n then (bndHi F k hi).bind fun h=>(bndLo F h lo).bind fun l=>some (.ret (if l=0∨l < h then .bsl lv i (o+l*n) (h - l) n e else .slice .shut [])) else none
  | _=>none
 | .scut x lo hi =>
  match evO F x with
  | .str s=>(bndHi F s.size hi).bind fun h=>(bndLo F h lo).bind fun l=>some (.ret (.str (s.extract l h)))
  | _=>none
 | .fa o x=>match evO F x with | .ptr l i p=>some (.ret (.ptr l i (p+o))) | .look cs=>if o≤cs.length then some (.ret (.look (cs.drop o))) else none | _=>none
 | .fd o n g x=>match evO F x with | .agg cs=>(cutL cs o n).bind fun c=>(ofCells g (c.map strip)).map .ret | _=>none
 | .ia n x i =>
  match evO F x,evO F i with
  | .slice _ xs, .int _ j=>if 0≤j then (match xs[j.toNat]? with | some c=>if c.length=n then some (.ret (.look c)) else none | none=>none) else none
  | .bsl l i o k m e, .int _ j=>if 0≤j∧j < (k:Int)∧m=n then some (.ret (.ptr l i (o+j.toNat*n))) else none
  | _,_=>none
 | .sx x i =>
  match evO F x,evO F i with
  | .str s, .int _ j=>if 0≤j then (match s.data.toList[j.toNat]? with | some b=>some (.ret (.int .u8 b.toNat)) | none=>none) else none
  | _,_=>none
 | .ax n len g x i =>
  match evO F x,evO F i with
  | .agg cs, .int _ j=>if 0≤j∧j < (len:Int) then (cutL cs (j.toNat*n) n).bind fun c=>(ofCells g (c.map strip)).map .ret else none
  | _,_=>none
 | .ex x i=>match evO F x with | .tup vs=>(vs[i]?).bind fun v=>(cp v).map .ret | _=>none
 | .len s x=>match evO F x with | .slice _ xs=>if s=false then some (.ret (.int .i64 xs.length)) else none | .bsl _ _ _ k _ _=>if s=false then some (.ret (.int .i64 k)) else none | .str b=>if s=true then some (.ret (.int .i64 b.size)) else none | _=>none
 | .mm mx x y=>match evO F x,evO F y with | .int k a, .int k' b=>if k=k' then some (.ret (.int k (if mx then (if b > a then b else a) else (if b < a then b else a)))) else none | _,_=>none
 | .isn neg x=>match evO F x with | .slice k _=>some (.ret (.bool (isNilK k != neg))) | .bsl ..=>some (.ret (.bool (false != neg))) | _=>none
 | .call f xs =>
  let args:=xs.map fun x=>strip (evO F x)
  if lowL 0 args=true then
   match cE (.fn f) args [] with
   | some (.ret v,_)=>if low 0 v=true then some (.ret v) else none
   | some (.pan v,_)=>if low 0 v=true then some (.pan v) else none
   | _=>none
  else none
 | _=>none
inductive OR where
 | ok (F:Fr) (S:St)
 | pan (v:V) (S:St)
mutual
def reloc (l1 l2 b:Nat):V→V
 | .ptr l i o=>if l=l1 then .ptr l2 (b+i) o else .ptr l i o
 | .bsl l i o n m e=>if l=l1 then .bsl l2 (b+i) o n m e else .bsl l i o n m e
 | .func f cs=>.func f (relocL l1 l2 b cs)
 | .ifc t v=>.ifc t (reloc l1 l2 b v)
 | .agg cs=>.agg (relocL l1 l2 b cs)
 | .tup cs=>.tup (relocL l1 l2 b cs)
 | v=>v
def relocL (l1 l2 b:Nat):List V→List V
 | []=>[]
 | c::cs=>reloc l1 l2 b c::relocL l1 l2 b cs
end
def back (F:Fr) (d:Option Nat):Option (Out×St)→Option OR
 | some (.ret v,⟨L,none⟩::R)=>some (.ok (putO F d v) (⟨L,none⟩::R))
 | some (.pan v,⟨L,none⟩::R)=>some (.pan v (⟨L,none⟩::R))
 | _=>none
def unown (F:Fr):Opd→Fr
 | .t s=>put F s (strip (F s))
 | .c _=>F
def appV (k:SK) (e:Nat) (xs ys:List (List V)):V :=
 match k,ys with
 | .nil,[]=>.slice .nil []
 | _,_=>.slice (.own e) (xs++ys)
def srcRows (S:St) (n:Nat):V→Option (List (List V))
 | .slice _ ys=>if allLen n ys=true then some ys else none
 | .bsl l i o k m e=>if m=n∧0 < n then (getBox S l i).bind fun cs=>(cutL cs o (k*n)).map fun c=>chunk n k (c.map strip) else none
 | _=>none
def appOf (F:Fr) (e n b:Nat) (x y:Opd):Option V :=
 match evO F x,evO F y with
 | .slice k xs, .slice _ ys =>
  if mayGrow k e xs.length=true∧allLen n ys=true∧(xs.length+ys.length)*b≤140737488355328∧xs.length+ys.length≤140737488355328 then some (appV k e xs ys) else none
 | _,_=>none
def appB (F:Fr) (S:St) (e n b:Nat) (x y:Opd):Option V :=
 match evO F x,evO F y with
 | .slice k xs, .bsl l i o c m e' =>
  (srcRows S n (.bsl l i o c m e')).bind fun ys =>
   if mayGrow k e xs.length=true∧lowL 0 ys.flatten=true∧(xs.length+ys.length)*b≤140737488355328∧xs.length+ys.length≤140737488355328 then some (appV k e xs ys) else none
 | _,_=>none
def appA (F:Fr) (S:St) (e n b:Nat) (x y:Opd):Option V :=
 match evO F y with
 | .bsl ..=>appB F S e n b x y
 | _=>appOf F e n b x y
def noOwn (cs:List V):Bool:=cs.all fun c=>match c with | .slice (.own _) _=>false | _=>true
mutual
def bare:V→Bool
 | .func f cs=>(match f with | .func _=>true | _=>false)&&bareL cs
 | .ifc _ v=>bare v
 | .agg cs=>bareL cs
 | .tup cs=>bareL cs
 | .undef=>false
 | .fresh _=>false
 | .mir ..=>false
 | _=>true
def bareL:List V→Bool
 | []=>true
 | c::cs=>bare c&&bareL cs
end
def barest:List (List V)→Bool
 | []=>true
 | c::cs=>(bareL c||(dz (some c)).isNone)&&barest cs
def rowsB (F:Fr) (l n:Nat):List Opd→Option (List V)
 | []=>some []
 | x::xs =>
  match cellsOf (strip (evO F x)) with
  | some vs=>if vs.length=n∧lowL l vs=true then (rowsB F l n xs).map (vs++·) else none
  | none=>none
def lvOf (F:Fr) (S:St):Option Nat→Option Nat
 | some t=>match F t with | .ptr l _ _=>if l < S.length then some l else none | _=>none
 | none=>if S.length=0 then none else some (S.length - 1)
def seqOp (cE:CE) (d:Option Nat) (op:AOp) (F:Fr) (S:St):Option OR :=
 match op with
 | .mv true (.t s)=>if tame (F s)=true then some (.ok (putO (put F s (strip (F s))) d (F s)) S) else none
 | .mv true (.c v)=>some (.ok (putO F d v) S)
 | .al z =>
  match S with
  | T::R=>some (.ok (putO F d (.ptr R.length T.bs.length 0)) ({ T with bs:=T.bs++[z] }::R))
  | []=>none
 | .box n x =>
  match S,cellsOf (strip (evO F x)) with
  | T::R,some cs=>if cs.length=n then some (.ok (putO F d (.ptr R.length T.bs.length 0)) ({ T with bs:=T.bs++[cs] }::R)) else none
  | _,_=>none
 | .ld true n g x =>
  match evO F x with
  | .ptr l i o =>
   match (getBox S l i).bind fun cs=>cs[o]? with
   | some (.slice (.own e) xs) =>
    (getBox S l i).bind fun cs=>if n=1∧g=false then some (.ok (putO F d (.slice (.own e) xs)) (setBox S l i (cs.set o (.slice .shut xs)))) else none
   | _=>match valOp cE F S (.ld false n g x) with | some (.ret v)=>some (.ok (putO F d v) S) | _=>none
  | _=>match valOp cE F S (.ld false n g x) with | some (.ret v)=>some (.ok (putO F d v) S) | _=>none
 | .st n x y =>
  match evO F x with
  | .ptr l i o =>
   (getBox S l i).bind fun cs=>(cellsOf (evO F y)).bind fun vs =>
    if vs.length=n∧o+n≤cs.length∧lowL (l+1) vs=true then
     some (.ok (putO (unown F y) d (.tup [])) (setBox S l i (setAt cs o vs)))
    else none
  | _=>none
 | .app e n b x y =>
  (appOf F e n b x y).map fun v=>.ok (putO (unown F x) d v) S
 | .appb e n b x y =>
  (appA F S e n b x y).map fun v=>.ok (putO (unown F x) d v) S
 | .rowr e n ps =>
  (match S with
  | T::R =>
   if ps.length*n≤16777216∧0 < n∧0 < ps.length then
    (rowsB F (R.length+1) n ps).map fun cs=>.ok (putO F d (.bsl R.length T.bs.length 0 ps.length n e)) ({ T with bs:=T.bs++[cs] }::R)
   else none
  | []=>none)
 | .mk e n b z x y =>
  (match S,evO F x,evO F y with
  | T::R, .int _ k, .int _ k' =>
   if 0≤k∧k'=k∧0 < n∧b*k.toNat≤281474976710656∧k≤281474976710656 then
    some (.ok (putO F d (.bsl R.length T.bs.length 0 k.toNat n e)) ({ T with bs:=T.bs++[(List.replicate k.toNat z).flatten] }::R))
   else none
  | _,_,_=>none)
 | .appr e n b x y lv =>
  (match evO F x,srcRows S n (evO F y) with
  | .slice k [],some ys =>
   if mayGrow k e 0=true∧0 < n∧ys.length*b≤140737488355328∧ys.length≤140737488355328 then
    (match k,ys with
    | .nil,[]=>some (.ok (putO F d (.slice .nil [])) S)
    | _,_ =>
     (lvOf F S lv).bind fun l=>if lowL (l+1) ys.flatten=true∧noOwn ys.flatten=true then some (.ok (putO (unown F x) d (.bsl l (lenAt S l) 0 ys.length n e)) (addBox S l ys.flatten)) else none)
   else none
  | .bsl l i o c m e',some ys =>
   if o=0∧m=n∧e'=e∧0 < n∧(c+ys.length)*b≤140737488355328∧c+ys.length≤140737488355328 then
    (getBox S l i).bind fun cs=>(cutL cs 0 (c*n)).bind fun old =>
     if noOwn old=true∧lowL (l+1) ys.flatten=true∧noOwn ys.flatten=true then
      some (.ok (putO F d (.bsl l (lenAt S l) 0 (c+ys.length) n e)) (addBox (setBox S l i dead) l (old++ys.flatten)))
     else none
   else none
  | _,_=>none)
 | .callw f xs =>
  ((xs.map fun x=>evO F x).mapM (frz S 0 4)).bind fun args =>
   if lowL 0 args=true then
    match cE (.fn f) args [] with
    | some (.ret v,_)=>if flatW v=true then some (.ok (putO F d v) S) else none
    | _=>none
   else none
 | .callr f e m xs =>
  let args:=xs.map fun x=>strip (evO F x)
  if lowL 0 args=true then
   match cE (.fn f) args [] with
   | some (.ret (.slice (.own e') ys),_) =>
    (match S with
    | T::R=>if e'=e∧0 < m∧flats ys.flatten=true then some (.ok (putO F d (.bsl R.length T.bs.length 0 ys.length m e)) ({ T with bs:=T.bs++[ys.flatten] }::R)) else none
    | []=>none)
   | some (.ret (.slice .nil []),_)=>some (.ok (putO F d (.slice .nil [])) S)
   | some (.esc v L,_)=>if m=0 then (frz [⟨L,none⟩] 0 6 v).bind fun v'=>if low 0 v'=true then some (.ok (putO F d v') S) else none else none
   | _=>none
  else none
 | .call f xs =>
  let args:=xs.map fun x=>strip (evO F x)
  if lowL 0 args=true then
   match cE (.fn f) args [] with
   | some (.ret v,_)=>if low 0 v=true then some (.ok (putO F d v) S) else none
   | some (.pan v,_)=>if low 0 v=true then some (.pan v S) else none
   | some (.esc v L,_) =>
    (match S with
    | T::R=>if bare v=true∧barest L=true then some (.ok (putO F d (reloc 0 R.length T.bs.length v)) ({ T with bs:=T.bs++L.map (relocL 0 R.length T.bs.length) }::R)) else none
    | []=>none)
   | none=>none
  else if tames args=true then back F d (cE (.fn f) args S) else none
 | .callv x xs =>
  match evO F x with
  | .func (.func f) cs =>
   let args:=(xs.map (evO F)++cs).map strip
   if tames args=true then back F d (cE (.fn f) args S) else none
  | .func (.yield l) _ =>
   let args:=(xs.map (evO F)).map strip
   if tames args=true then back F d (cE (.yield l) args S) else none
  | _=>none
 | .pan x=>match evO F x with | .ifc t v=>if low 0 (.ifc t v)=true then some (.pan (.ifc t v) S) else none | _=>none
 | op=>match valOp cE F S op with | some (.ret v)=>some (.ok (putO F d v) S) | _=>none
def wanted (F:Fr):Option (Nat×Bool)→Option Bool
 | none=>some true
 | some (t,b)=>match F t with | .bool c=>some (c == b) | .undef=>none | _=>some false
def seqOper (meth:Nat→String→Option Nat) (cE:CE) (o:AOper) (F:Fr) (S:St):Option OR :=
 match wanted F o.gd with
 | none=>none
 | some false=>some (.ok (putO F o.dst (.tup [])) S)
 | some true =>
  match o.op with
  | .inv x m xs =>
   (match evO F x with
   | .ifc t v =>
    (match meth t m with
    | some f =>
     let args:=(v::xs.map (evO F)).map strip
     if tames args=true then back F o.dst (cE (.fn f) args S) else none
    | none=>none)
   | _=>none)
  | op=>seqOp cE o.dst op F S
def outs (d:Option Nat) (v:V):List (Nat×V):=match d with | some d=>[(d,v)] | none=>[]
def unownW (F:Fr):Opd→List (Nat×V)
 | .t s=>[(s,strip (F s))]
 | .c _=>[]
mutual
def eqV:V→V→Bool
 | .undef, .undef=>true
 | .bool a, .bool b=>decide (a=b)
 | .int k a, .int j b=>decide (k=j)&&decide (a=b)
 | .str a, .str b=>decide (a=b)
 | .ptr l i o, .ptr l' i' o'=>Nat.beq l l'&&Nat.beq i i'&&Nat.beq o o'
 | .nilp, .nilp=>true
 | .slice k xs, .slice j ys=>(match k,j with | .nil, .nil=>true | .shut, .shut=>true | .own a, .own b=>Nat.beq a b | _,_=>false)&&eqR xs ys
 | .func f cs, .func g ds=>(match f,g with | .func a, .func b=>Nat.beq a b | _,_=>false)&&eqL cs ds
 | .nilf, .nilf=>true
 | .ifc t v, .ifc u w=>Nat.beq t u&&eqV v w
 | .nili, .nili=>true
 | .agg cs, .agg ds=>eqL cs ds
 | .tup cs, .tup ds=>eqL cs ds
 | .bsl l i o n m e, .bsl l' i' o' n' m' e'=>Nat.beq l l'&&Nat.beq i i'&&Nat.beq o o'&&Nat.beq n n'&&Nat.beq m m'&&Nat.beq e e'
 | _,_=>false
def eqL:List V→List V→Bool
 | [],[]=>true
 | x::xs,y::ys=>eqV x y&&eqL xs ys
 | _,_=>false
def eqR:List (List V)→List (List V)→Bool
 | [],[]=>true
 | x::xs,y::ys=>eqL x y&&eqR xs ys
 | _,_=>false
end
def ownFree (S:St):Bool:=S.all fun T=>T.bs.all noOwn
def eqS:St→St→Bool
 | [],[]=>true
 | T::S,T'::S'=>T.lp.isNone&&T'.lp.isNone&&eqR T.bs T'.bs&&eqS S S'
 | _,_=>false
def freeEff (cE:CE) (o:AOper) (F:Fr) (S:St):Option (List (Nat×V)) :=
 match wanted F o.gd with
 | none=>none
 | some false=>some (outs o.dst (.tup []))
 | some true =>
  match o.op with
  | .mv true (.t s)=>if tame (F s)=true then some ((s,strip (F s))::outs o.dst (F s)) else none
  | .mv true (.c v)=>some (outs o.dst v)
  | .al z=>some (outs o.dst (.fresh z))
  | .ld true n g x =>
   (match evO F x with
   | .ptr l i p =>
    (match (getBox S l i).bind fun cs=>cs[p]? with
    | some (.slice (.own e) xs)=>if n=1∧g=false then some (outs o.dst (.mir l i p e xs)) else none
    | _=>match valOp cE F S (.ld false n g x) with | some (.ret v)=>some (outs o.dst v) | _=>none)
   | _=>match valOp cE F S (.ld false n g x) with | some (.ret v)=>some (outs o.dst v) | _=>none)
  | .app e n b x y =>
   (match appOf F e n b x y with
   | some v=>some (unownW F x++outs o.dst v)
   | none=>none)
  | .st n (.t d) y =>
   (match F d,cellsOf (strip (evO F y)) with
   | .fresh z,some vs=>if vs.length=n∧n≤z.length∧lowL 0 vs=true∧o.dst=none then some [(d, .fresh (setAt z 0 vs))] else none
   | _,_=>none)
  | .call f xs =>
   if lowL 0 (xs.map fun x=>strip (evO F x))=true then (match valOp cE F S (.call f xs) with | some (.ret v)=>some (outs o.dst v) | _=>none)
   else if tames (xs.map fun x=>strip (evO F x))=true then
    (match cE (.fn f) (xs.map fun x=>strip (evO F x)) S with
    | some (.ret v,S')=>if low 0 v=true∧eqS S S'=true∧ownFree S=true then some (outs o.dst v) else none
    | _=>none)
   else none
  | .callw f xs =>
   ((xs.map fun x=>evO F x).mapM (frz S 0 4)).bind fun args =>
    if lowL 0 args=true then
     (match cE (.fn f) args [] with
     | some (.ret v,_)=>if flatW v=true then some (outs o.dst v) else none
     | _=>none)
    else none
  | op=>match valOp cE F S op with | some (.ret v)=>some (outs o.dst v) | _=>none
def puts:List (Nat×V)→Fr→Fr
 | [],F=>F
 | (d,v)::ws,F=>puts ws (put F d v)
def freeOper (cE:CE) (o:AOper) (F:Fr) (S:St):Option Fr:=(freeEff cE o F S).map fun ws=>puts ws F
def freeL (cE:CE) (S:St):List AOper→Fr→Option Fr
 | [],F=>some F
 | o::os,F=>(freeOper cE o F S).bind (freeL cE S os)
def unmir (l i p:Nat):V→V
 | .mir l' i' p' e xs=>if l'=l∧i'=i∧p'=p then .slice .shut xs else .mir l' i' p' e xs
 | v=>v
def settle1 (o:AOper) (F:Fr) (S:St):Fr×St :=
 match o.dst with
 | none=>(F,S)
 | some d =>
  match F d with
  | .fresh z=>(match S with | T::R=>(put F d (.ptr R.length T.bs.length 0), { T with bs:=T.bs++[z] }::R) | []=>(F,S))
  | .mir l i p e xs=>(match getBox S l i with | some cs=>(put (fun t=>unmir l i p (F t)) d (.slice (.own e) xs),setBox S l i (cs.set p (.slice .shut xs))) | none=>(F,S))
  | _=>(F,S)
def settle:List AOper→Fr→St→Fr×St
 | [],F,S=>(F,S)
 | o::os,F,S=>settle os (settle1 o F S).1 (settle1 o F S).2
def isCall (o:AOper):Bool:=match o.op with | .call _ _=>true | .callw _ _=>true | _=>false
def cEv (f:Nat) (A:List V) (v:V):CE:=fun g args T=>match g with | .fn f'=>if f'=f∧eqL args A=true then some (.ret v,T) else none | _=>none
def firstPtr:List V→Option (Nat×Nat)
 | []=>none
 | .ptr l i _::_=>some (l,i)
 | _::vs=>firstPtr vs
def freeC (cE:CE) (os:List AOper) (F:Fr) (S:St):Option (Fr×St) :=
 match os.dropWhile fun o=>!isCall o with
 | o::post =>
  (match o.op with
  | .call f xs =>
   (freeL (fun _ _ _=>none) S (os.takeWhile fun o=>!isCall o) F).bind fun F1 =>
   (match firstPtr (xs.map fun x=>strip (evO F1 x)),cE (.fn f) (xs.map fun x=>strip (evO F1 x)) S with
   | some (l,i),some (.ret v,S') =>
    if o.gd=none∧post.all (fun o=>!isCall o)=true∧tames (xs.map fun x=>strip (evO F1 x))=true∧low 0 v=true∧ownFree S=true∧eqS (setBox S l i dead) (setBox S' l i dead)=true then
     (freeL (cEv f (xs.map fun x=>strip (evO F1 x)) v) (setBox S l i dead) os F).map fun F3=>(F3,S')
    else none
   | _,_=>none)
  | _=>none)
 | []=>none
def isMk (o:AOper):Bool:=match o.op with | .rowr ..=>true | .appr ..=>true | _=>false
def mkEff (o:AOper) (F:Fr) (S:St):Option (List (Nat×V)×St×Option (Nat×Nat)) :=
 match o.gd with
 | some _=>none
 | none =>
  match o.op with
  | .rowr e n ps =>
   (match S with
   | T::R =>
    if ps.length*n≤16777216∧0 < n∧0 < ps.length then
     (rowsB F (R.length+1) n ps).map fun cs=>(outs o.dst (.bsl R.length T.bs.length 0 ps.length n e), { T with bs:=T.bs++[cs] }::R,none)
    else none
   | []=>none)
  | .appr e n b x y none =>
   (match evO F x,srcRows S n (evO F y) with
   | .slice k [],some ys =>
    if mayGrow k e 0=true∧0 < n∧ys.length*b≤140737488355328∧ys.length≤140737488355328∧(isNilK k&&ys.isEmpty)=false then
     (lvOf F S none).bind fun l=>if lowL (l+1) ys.flatten=true∧noOwn ys.flatten=true then some (unownW F x++outs o.dst (.bsl l (lenAt S l) 0 ys.length n e),addBox S l ys.flatten,none) else none
    else none
   | .bsl l i f c m e',some ys =>
    if f=0∧m=n∧e'=e∧0 < n∧(c+ys.length)*b≤140737488355328∧c+ys.length≤140737488355328 then
     (getBox S l i).bind fun cs=>(cutL cs 0 (c*n)).bind fun old =>
      if noOwn old=true∧lowL (l+1) ys.flatten=true∧noOwn ys.flatten=true then
       some (outs o.dst (.bsl l (lenAt S l) 0 (c+ys.length) n e),addBox (setBox S l i dead) l (old++ys.flatten),some (l,i))
      else none
    else none
   | _,_=>none)
  | _=>none
def isTk (D:Option (Nat×Nat×Option Nat)) (o:AOper) (F:Fr):Bool :=
 match D,o.gd,o.op with
 | some (l,i,some p),none, .ld true 1 false x=>(match evO F x with | .ptr l' i' p'=>Nat.beq l' l&&Nat.beq i' i&&Nat.beq p' p | _=>false)
 | _,_,_=>false
def tkEff (D:Option (Nat×Nat×Option Nat)) (o:AOper) (S:St):Option (List (Nat×V)×St) :=
 match D with
 | some (l,i,some p)=>(getBox S l i).bind fun cs=>(match cs[p]? with | some (.slice (.own e) xs)=>some (outs o.dst (.slice (.own e) xs),setBox S l i (cs.set p (.slice .shut xs))) | _=>none)
 | _=>none
def okKill (D:Option (Nat×Nat×Option Nat)):Option (Nat×Nat)→Bool
 | none=>true
 | some (l,i)=>(match D with | some (l',i',none)=>Nat.beq l' l&&Nat.beq i' i | _=>false)
def noTake:Option (Nat×Nat×Option Nat)→Bool
 | some (_,_,some _)=>false
 | _=>true
def taken (S:St):Option (Nat×Nat×Option Nat)→St
 | some (l,i,some p)=>(match getBox S l i with
  | some cs=>(match cs[p]? with | some (.slice (.own _) xs)=>setBox S l i (cs.set p (.slice .shut xs)) | _=>S)
  | none=>S)
 | _=>S
def clEff (cE:CE) (C:Option (St×St)) (o:AOper) (F:Fr):Option (List (Nat×V)) :=
 match o.gd,o.op,C with
 | none, .call f xs,some (T0,T1) =>
  let A:=xs.map fun x=>strip (evO F x)
  if lowL 0 A=true then
   (match cE (.fn f) A [] with
   | some (.ret v,_)=>if low 0 v=true then some (outs o.dst v) else none
   | _=>none)
  else if tames A=true then
   (match cE (.fn f) A T0,cE (.fn f) A T1 with
   | some (.ret v,T0'),some (.ret v',T1')=>if low 0 v=true∧eqV v v'=true∧eqS T0 T0'=true∧eqS T1 T1'=true then some (outs o.dst v) else none
   | _,_=>none)
  else none
 | _,_,_=>none
def chnEff (cE:CE) (C:Option (St×St)) (D:Option (Nat×Nat×Option Nat)) (S0:St) (o:AOper) (F:Fr) (S:St):Option (List (Nat×V)×St) :=
 if isMk o=true then (if noTake D=true∧C.isNone=true then (mkEff o F S).bind fun r=>if okKill D r.2.2=true then some (r.1,r.2.1) else none else none)
 else if isCall o=true then (clEff cE C o F).map fun ws=>(ws,S)
 else if isTk D o F=true then tkEff D o S
 else (freeEff (fun _ _ _=>none) o F S0).bind fun ws=>if ws.all (fun q=>tame q.2)=true then some (ws,S) else none
def ownAt (S:St):V→Option (Nat×Nat×Option Nat)
 | .ptr l i p=>(getBox S l i).bind fun cs=>(match cs[p]? with | some (.slice (.own _) _)=>some (l,i,some p) | _=>none)
 | _=>none
def chnK (S0:St):List AOper→Fr→St→Option (Nat×Nat×Option Nat)
 | [],_,_=>none
 | o::os,F,S =>
  if isMk o=true then
   (match mkEff o F S with
   | some (ws,S1,none)=>chnK S0 os (puts ws F) S1
   | some (_,_,some (l,i))=>some (l,i,none)
   | none=>none)
  else
   (match (match o.op with | .ld true 1 false x=>ownAt S (evO F x) | _=>none) with
   | some D=>some D
   | none=>(match freeEff (fun _ _ _=>none) o F S0 with
    | some ws=>chnK S0 os (puts ws F) S
    | none=>none))
def chnL (cE:CE) (C:Option (St×St)) (D:Option (Nat×Nat×Option Nat)) (S0:St):List AOper→Fr→St→Option (Fr×St)
 | [],F,S=>some (F,S)
 | o::os,F,S=>(chnEff cE C D S0 o F S).bind fun r=>chnL cE C D S0 os (puts r.1 F) r.2
def without (S:St):Option (Nat×Nat×Option Nat)→St
 | some (l,i,_)=>setBox S l i dead
 | none=>S
def chnB (cE:CE) (os:List AOper) (F:Fr) (S:St):Option (Fr×St) :=
 chnL cE (if os.all (fun o=>!isMk o)=true then some (S,taken S (chnK S os F S)) else none) (chnK S os F S) (without S (chnK S os F S)) os F S
def blks (meth:Nat→String→Option Nat) (cE:CE):List Blk→Fr→St→Option (Ex×Fr×St)
 | [],F,S=>some (.nrm,F,S)
 | .seq o::bs,F,S =>
  match seqOper meth cE o F S with
  | some (.ok F' S')=>blks meth cE bs F' S'
  | some (.pan v S')=>some (.pan v,F,S')
  | none=>none
 | .free os::bs,F,S =>
  match freeL cE S os F with
  | some F'=>blks meth cE bs (settle os F' S).1 (settle os F' S).2
  | none=>none
 | .fre os::bs,F,S =>
  match freeC cE os F S with
  | some (F',S')=>blks meth cE bs (settle os F' S').1 (settle os F' S').2
  | none=>none
 | .chn os::bs,F,S =>
  match chnB cE os F S with
  | some (F',S')=>blks meth cE bs F' S'
  | none=>none
def codeN (meth:Nat→String→Option Nat) (cE:CE):Nat→ACode→Fr→St→Option (Ex×Fr×St)
 | 0,_,_,_=>none
 | k+1,c,F,S =>
  match c with
  | .nop=>some (.nrm,F,S)
  | .reg bs=>blks meth cE bs F S
  | .seq a b =>
   (match codeN meth cE k a F S with
   | some (.nrm,F',S')=>codeN meth cE k b F' S'
   | r=>r)
  | .cond c a b=>(match evO F c with | .bool true=>codeN meth cE k a F S | .bool false=>codeN meth cE k b F S | _=>none)
  | .blk id a =>
   (match codeN meth cE k a F S with
   | some (.exit j,F',S')=>if j=id then some (.nrm,F',S') else some (.exit j,F',S')
   | r=>r)
  | .loop a =>
   (match codeN meth cE k a F S with
   | some (.nrm,F',S')=>codeN meth cE k (.loop a) F' S'
   | r=>r)
  | .exit id=>some (.exit id,F,S)
  | .ret=>some (.ret,F,S)
  | .rng x ps asg body =>
   (match S with
   | ⟨L,none⟩::R =>
    (match evO F x with
    | .func (.func f) cs =>
     (match (if tames cs=true then some () else none).bind fun _=>cE (.fn f) (.func (.yield R.length) []::cs.map strip) (⟨L,some ⟨fun t=>calm (F t),ps,asg,body,none⟩⟩::R) with
     | some (.ret _,⟨L',some p⟩::R') =>
      (match p.jump with
      | none=>some (.nrm,F,⟨L',none⟩::R')
      | some .ret=>some (.ret,F,⟨L',none⟩::R')
      | some (.exit id)=>some (.exit id,F,⟨L',none⟩::R')
      | _=>none)
     | _=>none)
    | _=>none)
   | _=>none)
inductive Res where
 | t (n:Nat)
 | c (t n:Nat) (g:Bool)
structure AFunc where
 np:Nat
 nt:Nat
 res:List Res
 body:ACode
 esc:Bool
def resOf (F:Fr) (S:St):Res→Option V
 | .t n=>some (F n)
 | .c t n g =>
  match F t with
  | .ptr l i o=>(getBox S l i).bind fun cs=>(cutL cs o n).bind fun c=>ofCells g (c.map strip)
  | _=>none
def resAll (F:Fr) (S:St):List Res→Option (List V)
 | []=>some []
 | r::rs=>(resOf F S r).bind fun v=>(resAll F S rs).map (strip v::·)
def results (F:Fr) (S:St):List Res→Option V
 | [r]=>resOf F S r
 | rs=>(resAll F S rs).map .tup
def args0 (args:List V):Fr:=fun t=>(args[t]?).getD .undef
structure Env where
 fn:Nat→Option AFunc
 meth:Nat→String→Option Nat
 ext:Nat→Option (CE→List V→St→Option (Out×St))
def putPs (F:Fr):List Nat→List V→Fr
 | p::ps,v::vs=>putPs (put F p v) ps vs
 | _,_=>F
def leave (af:AFunc):Option (Ex×Fr×St)→Option (Out×St)
 | some (.pan v,_,_::R)=>if low R.length v=true then some (.pan v,R) else none
 | some (.exit _,_,_)=>none
 | some (_,F,T::R) =>
  (match results F (T::R) af.res with
  | some v =>
   if low R.length v=true then some (.ret v,R)
   else if af.esc=true then (if low (R.length+1) v=true then some (.esc (strip v) T.bs,R) else none)
   else (frz (T::R) R.length 4 v).bind fun v'=>if low R.length v'=true then some (.ret v',R) else none
  | none=>none)
 | _=>none
def endRound (l:Nat):Option (Ex×Fr×St)→Option (Out×St)
 | some (e,_,_::R) =>
  (match getLp R l with
  | some ⟨F,ps,asg,body,some .nrm⟩ =>
   (match e with
   | .nrm=>some (.ret (.bool true),setLp R l (some ⟨F,ps,asg,body,none⟩))
   | .ret=>some (.ret (.bool false),setLp R l (some ⟨F,ps,asg,body,some .ret⟩))
   | .exit id=>some (.ret (.bool false),setLp R l (some ⟨F,ps,asg,body,some (.exit id)⟩))
   | .pan _=>none)
  | _=>none)
 | _=>none
def callBody (E:Env) (cE:CE) (k:Nat):CE
 | .fn f,args,S =>
  match E.ext f with
  | some h=>h cE args S
  | none =>
   match E.fn f with
   | none=>none
   | some af=>if args.length=af.np then leave af (codeN E.meth cE k af.body (args0 args) (⟨[],none⟩::S)) else none
 | .yield l,args,S =>
  match getLp S l with
  | some ⟨F,ps,asg,body,none⟩ =>
   if args.length=ps.length then
    match codeN E.meth cE k asg (putPs F ps args) (⟨[],none⟩::S) with
    | some (.nrm,F1,S1) =>
     (match getLp S1 l with
     | some ⟨F2,ps2,asg2,body2,none⟩=>endRound l (codeN E.meth cE k body F1 (setLp S1 l (some ⟨F2,ps2,asg2,body2,some .nrm⟩)))
     | _=>none)
    | _=>none
   else none
  | _=>none
def callN (E:Env):Nat→CE
 | 0=>fun _ _ _=>none
 | k+1=>callBody E (callN E k) k
section
variable (P:Program)
def opd:Operand→Option Opd
 | .tmp n=>some (.t n)
 | .const v=>(ofValue v).map .c
 | .func f=>some (.c (.func (.func f) []))
 | .global _=>none
def opds (xs:Array Operand):Option (List Opd):=xs.toList.mapM opd
def opdO:Option Operand→Option (Option Opd)
 | none=>some none
 | some x=>(opd x).map some
def szOf (t:Nat):Option Nat:=(P.info? t).map (·.size)
def aggOf (t:Nat):Option Bool :=
 match P.underlying t with
 | some (.struct _)=>some true
 | some (.array _ _)=>some true
 | some _=>some false
 | none=>none
def zeroOf (t:Nat):Option (List V):=((P.info? t).bind (·.zero)).bind fun v=>(v.cells.toList.mapM ofCell)
def tkOf (t:Nat):Option Nat :=
 match P.underlying t with
 | some .bool=>some 1
 | some (.int _)=>some 0
 | some .string=>some 0
 | _=>none
def placesOf (t:Nat):Option (Nat→Option (Nat×Nat)) :=
 match P.underlying t with
 | some (.struct fs)=>(fs.toList.mapM fun f=>(P.info? f.type).map fun i=>(f.offset,i.size)).map fun pl i=>pl.toArray[i]?
 | some (.array _ e)=>(P.info? e).map fun ie i=>some (i*ie.size,ie.size)
 | _=>none
def compBuiltin (b:Builtin) (args:List Operand) (tys:List TypeId):Option AOp :=
 match b,args,tys with
 | .len,[x],[t] =>
  (match P.underlying t with
  | some (.slice _)=>(opd x).map (.len false)
  | some .string=>(opd x).map (.len true)
  | _=>none)
 | .append,[x,y],[t,u] =>
  (match P.underlying t with
  | some (.slice e)=>(P.info? e).bind fun i=>(zeroOf P e).bind fun z=>if 0 < i.size∧0 < i.bytes∧t=u∧z.length=i.size then (opd x).bind fun x'=>(opd y).map (.app e i.size i.bytes x') else none
  | _=>none)
 | .max,[x,y],_=>(opd x).bind fun x'=>(opd y).map (.mm true x')
 | .min,[x,y],_=>(opd x).bind fun x'=>(opd y).map (.mm false x')
 | _,_,_=>none
def compCall (c:Call):Option AOp :=
 match c.callee with
 | .builtin b=>compBuiltin P b c.args.toList c.argTypes.toList
 | .value x=>(match x with | .func f=>(opds c.args).map (.call f) | x=>(opd x).bind fun x'=>(opds c.args).map (.callv x'))
 | .invoke x m=>(opd x).bind fun x'=>(opds c.args).map (.inv x' m)
def compOp (tk:Option Nat→Bool) (o:Oper):Option AOp :=
 match o.op with
 | .move x=>(opd x).map (.mv (tk o.dst))
 | .assign x=>(opd x).map (.mv true)
 | .pick c a b=>(opd c).bind fun c'=>(opd a).bind fun a'=>(opd b).map fun b'=>.pick c' a' b'
 | .alloc e=>(zeroOf P e).map .al
 | .box e x=>(szOf P e).bind fun n=>(opd x).map (.box n)
 | .build t ps=>(zeroOf P t).bind fun z=>(placesOf P t).bind fun pl=>(ps.toList.mapM fun p=>(pl p.1).bind fun q=>(opd p.2).map fun X=>(q.1,q.2,X)).map (.bld z)
 | .buildSlice t len ps =>
  (match P.underlying t with
  | some (.slice e)=>if ps.toList.map (·.1)=List.range len then (szOf P e).bind fun n=>(zeroOf P e).bind fun _=>(ps.toList.mapM fun p=>opd p.2).map (.row e n) else none
  | _=>none)
 | .load t x=>(szOf P t).bind fun n=>(aggOf P t).bind fun g=>(opd x).map (.ld (tk o.dst) n g)
 | .makeSlice t x y =>
  (match P.underlying t with
  | some (.slice e)=>(P.info? e).bind fun i=>(zeroOf P e).bind fun z=>if z.length=i.size then (opd x).bind fun x'=>(opd y).map (.mk e i.size i.bytes z x') else none
  | _=>none)
 | .store t x y=>(szOf P t).bind fun n=>(opd x).bind fun x'=>(opd y).map (.st n x')
 | .nilCheck x=>(opd x).map .nc
 | .binOp op t x y _ =>
  (match P.underlying t,op,y with
  | some (.slice _), .eql, .const (.slice none 0 0)=>(opd x).map (.isn false)
  | some (.slice _), .neq, .const (.slice none 0 0)=>(opd x).map (.isn true)
  | _,_,_=>(tkOf P t).bind fun k=>(opd x).bind fun x'=>(opd y).map (.bin op k x'))
 | .unOp op _ x=>(opd x).map (.un op)
 | .convert s d x=>match P.underlying s,P.underlying d with | some (.int _),some (.int k)=>(opd x).map (.cv k) | _,_=>none
 | .makeInterface t x =>
  (match P.underlying t with
  | some (.interface _)=>none
  | some _=>(opd x).map (.mki t)
  | none=>none)
 | .makeFunc (.func f) fs cs=>(match fs.toList with | []=>(opds cs).map (.fn f) | _=>none)
 | .slice t x lo hi none =>
  (match P.underlying t with
  | some (.slice e)=>(szOf P e).bind fun n=>(opd x).bind fun x'=>(opdO lo).bind fun l=>(opdO hi).map (.cut n x' l)
  | some .string=>(opd x).bind fun x'=>(opdO lo).bind fun l=>(opdO hi).map (.scut x' l)
  | _=>none)
 | .fieldAddr s x i =>
  (match P.underlying s with
  | some (.struct fs)=>(fs[i]?).bind fun f=>(szOf P f.type).bind fun n=>if n=0 then none else (opd x).map (.fa f.offset)
  | _=>none)
 | .field s x i =>
  (match P.underlying s with
  | some (.struct fs)=>(fs[i]?).bind fun f=>(szOf P f.type).bind fun n=>(aggOf P f.type).bind fun g=>(opd x).map (.fd f.offset n g)
  | _=>none)
 | .indexAddr t x i =>
  (match P.underlying t with
  | some (.slice e)=>(szOf P e).bind fun n=>(opd x).bind fun x'=>(opd i).map (.ia n x')
  | _=>none)
 | .index t x i =>
  (match P.underlying t with
  | some .string=>(opd x).bind fun x'=>(opd i).map (.sx x')
  | some (.array n e)=>(szOf P e).bind fun m=>(aggOf P e).bind fun g=>(opd x).bind fun x'=>(opd i).map (.ax m n g x')
  | _=>none)
 | .extract x i=>(opd x).map (.ex · i)
 | .call c=>compCall P c
 | .panic x=>(opd x).map .pan
 | _=>none
def takesOf (res:List Nat) (ops:List Oper):List Nat :=
 (ops.flatMap fun o =>
  match o.op with
  | .call { callee:=.builtin .append,args:=#[.tmp t,_], .. }=>[t]
  | .assign (.tmp t)=>(match o.dst with | some d=>if res.contains d then [t] else [] | none=>[])
  | _=>[]).filter fun t=>!res.contains (3000000+t)
def hintsOf (res:List Nat):List Nat :=
 match res.filter fun r=>decide (1000000≤r) with
 | []=>[]
 | hs=>999999::hs
def inNt (nt:Nat):Option Nat→Bool
 | some d=>decide (d < nt)
 | none=>true
def compGd (ops:List Oper):Option (Nat×Bool)→Option (Option (Nat×Bool))
 | none=>some none
 | some (j,b)=>(ops[j]?).bind fun oj=>(oj.dst).map fun d=>some (d,b)
def retag (tk:Option Nat→Bool) (o:Oper) (op:AOp):AOp :=
 match o.dst with
 | none=>op
 | some d =>
  if tk (some 999999)=false then op else
  match op with
  | .call f xs =>
   if tk (some (1000000+d))=true then .callw f xs
   else if tk (some (4000000+d))=true then .callr f 0 0 xs
   else if tk (some (2000000+d))=true then (match P.underlying o.type with | some (.slice e)=>(match szOf P e with | some m=>.callr f e m xs | none=>op) | _=>op)
   else op
  | .row e n ps=>if tk (some (6000000+d))=true then .rowr e n ps else op
  | .app e n b x y =>
   if tk (some (1000000+d))=true then .appb e n b x y
   else if tk (some (6000000+d))=true then .appr e n b x y none
   else (match (List.range 100).find? fun p=>tk (some (10000000+p*100000+d)) with | some p=>.appr e n b x y (some p) | none=>.app e n b x y)
  | op=>op
def compOper (nt:Nat) (tk:Option Nat→Bool) (ops:List Oper) (o:Oper):Option AOper :=
 if inNt nt o.dst=true then (compOp P tk o).bind fun op=>(compGd ops o.guard).map fun g=>⟨o.dst,retag P tk o op,g⟩ else none
def ancs:List Oper→List Nat→List Nat
 | [],acc=>acc
 | o::os,acc=>ancs os (acc++[o.after.toList.foldl (fun s e=>if Region.binds .any e then s ||| 2 ^ e.on ||| acc.getD e.on 0 else s) 0])
def cutAt (an:List Nat) (p:Nat):Bool :=
 (List.range an.length).all fun j=>decide (j < p)||(List.range p).all fun i=>(an.getD j 0).testBit i
def readO:Opd→List Nat
 | .t n=>[n]
 | .c _=>[]
def readOO:Option Opd→List Nat
 | some x=>readO x
 | none=>[]
def reads:AOp→List Nat
 | .mv _ x=>readO x
 | .pick c a b=>readO c++readO a++readO b
 | .al _=>[]
 | .box _ x=>readO x
 | .bld _ ps=>ps.flatMap fun p=>readO p.2.2
 | .row _ _ ps=>ps.flatMap readO
 | .mk _ _ _ _ x y=>readO x++readO y
 | .ld _ _ _ x=>readO x
 | .st _ x y=>readO x++readO y
 | .nc x=>readO x
 | .bin _ _ x y=>readO x++readO y
 | .un _ x=>readO x
 | .cv _ x=>readO x
 | .mki _ x=>readO x
 | .fn _ cs=>cs.flatMap readO
 | .cut _ x lo hi=>readO x++readOO lo++readOO hi
 | .scut x lo hi=>readO x++readOO lo++readOO hi
 | .fa _ x=>readO x
 | .fd _ _ _ x=>readO x
 | .ia _ x i=>readO x++readO i
 | .sx x i=>readO x++readO i
 | .ax _ _ _ x i=>readO x++readO i
 | .ex x _=>readO x
 | .len _ x=>readO x
 | .app _ _ _ x y=>readO x++readO y
 | .appb _ _ _ x y=>readO x++readO y
 | .rowr _ _ ps=>ps.flatMap readO
 | .appr _ _ _ x y lv=>readO x++readO y++(match lv with | some t=>[t] | none=>[])
 | .mm _ x y=>readO x++readO y
 | .isn _ x=>readO x
 | .call _ xs=>xs.flatMap readO
 | .callw _ xs=>xs.flatMap readO
 | .callr _ _ _ xs=>xs.flatMap readO
 | .callv x xs=>readO x++xs.flatMap readO
 | .inv x _ xs=>readO x++xs.flatMap readO
 | .pan x=>readO x
def readsO (o:AOper):List Nat:=(match o.gd with | some (t,_)=>[t] | none=>[])++reads o.op
def writesO (o:AOper):List Nat :=
 (match o.dst with | some d=>[d] | none=>[])++(match o.op with | .mv true (.t s)=>[s] | .app _ _ _ (.t s) _=>[s] | .appr _ _ _ (.t s) _ _=>[s] | .st _ (.t s) _=>[s] | _=>[])
def disj (xs ys:List Nat):Bool:=xs.all fun x=>!ys.contains x
def apart (o p:AOper):Bool:=disj (writesO o) (readsO p)&&disj (writesO o) (writesO p)&&disj (readsO o) (writesO p)&&!(isMk o&&isMk p)
def lens (an:List Nat):Nat→Nat→Nat→List Nat
 | 0,_,cur=>if cur=0 then [] else [cur]
 | k+1,p,cur=>if cur≠0∧cutAt an p=true then cur::lens an k (p+1) 1 else lens an k (p+1) (cur+1)
def cutsOk (an:List Nat):Nat→List Nat→Bool
 | _,[]=>true
 | p,n::ns=>cutAt an p&&cutsOk an (p+n) ns
def onePart:List AOper→Blk
 | [o]=>.seq o
 | os=>.free os
def parts:List Nat→List AOper→List Blk
 | [],_=>[]
 | n::ns,os=>onePart (os.take n)::parts ns (os.drop n)
def apartOk (an:List Nat) (os:List AOper):Bool :=
 (List.range os.length).all fun j=>(List.range j).all fun i=>(an.getD j 0).testBit i||(match os[j]?,os[i]? with | some o,some p=>apart o p | _,_=>true)
def backOk (ops:List Oper):Bool :=
 (List.range ops.length).all fun j=>(match ops[j]? with | some o=>o.after.toList.all fun e=>!Region.binds .any e||decide (e.on < j) | none=>true)
def takes (tk:List Nat):Option Nat→Bool
 | some d=>tk.contains d
 | none=>false
def markB (res:List Nat):Blk→Blk
 | .free os=>if os.any (fun o=>match o.dst with | some d=>res.contains (8000000+d) | none=>false)=true then .fre os else if os.any (fun o=>match o.dst with | some d=>res.contains (9000000+d) | none=>false)=true then .chn os else .free os
 | b=>b
def compReg (nt:Nat) (res:List Nat) (ops:List Oper) (draw:Bool):Option (List Blk) :=
 (ops.mapM (compOper P nt (takes (takesOf res ops++hintsOf res)) ops)).bind fun os =>
  if draw then
   if backOk ops=true∧apartOk (ancs ops []) os=true∧cutsOk (ancs ops []) 0 (lens (ancs ops []) ops.length 0 0)=true∧(lens (ancs ops []) ops.length 0 0).sum=ops.length∧(lens (ancs ops []) ops.length 0 0).all (· != 0)=true then
    some ((parts (lens (ancs ops []) ops.length 0 0) os).map (markB res))
   else none
  else some (os.map .seq)
def compC (nt:Nat) (res:List Nat):Code→Option ACode
 | .skip=>some .nop
 | .region _ ops draw=>(compReg P nt res ops.toList draw).map .reg
 | .seq a b=>(compC nt res a).bind fun a'=>(compC nt res b).map fun b'=>.seq a' b'
 | .cond c a b=>(opd c).bind fun c'=>(compC nt res a).bind fun a'=>(compC nt res b).map fun b'=>.cond c' a' b'
 | .block id a=>(compC nt res a).map fun a'=>.blk id a'
 | .loop a=>(compC nt res a).map fun a'=>.loop a'
 | .exit id=>some (.exit id)
 | .ret=>some .ret
 | .rangeFunc x ps a b=>(opd x).bind fun x'=>(compC nt res a).bind fun a'=>(compC nt res b).bind fun b'=>if ps.toList.all (fun p=>decide (p < nt))=true∧noRng a'=true∧noRng b'=true then some (.rng x' ps.toList a' b') else none
 | _=>none
def compRes:ResultVar→Option Res
 | .tmp t=>some (.t t)
 | .cell t ty=>(szOf P ty).bind fun n=>(aggOf P ty).map (.c t n)
def tmpRes:ResultVar→Option Nat
 | .tmp t=>some t
 | _=>none
def hintsFor (esc:List Nat) (f:Nat):List Nat:=esc.filterMap fun h=>if h / 1000000000=f+1 then some (h % 1000000000) else none
def compF (esc:List Nat) (f:Nat):Option AFunc :=
 (P.funcs[f]?).bind fun fn=>fn.body.bind fun c=>(fn.results.toList.mapM (compRes P)).bind fun rs =>
  if fn.params.size + fn.nfree ≤ fn.ntmps ∧ fn.name ≠ "runtime.NumGoroutine" then (compC P fn.ntmps (fn.results.toList.filterMap tmpRes ++ hintsFor esc f) c).map fun body => ⟨fn.params.size + fn.nfree,fn.ntmps,rs,body,esc.contains f⟩ else none
end
end AM
end Go.Proofs.Ytimfbnojmdnlnaa
