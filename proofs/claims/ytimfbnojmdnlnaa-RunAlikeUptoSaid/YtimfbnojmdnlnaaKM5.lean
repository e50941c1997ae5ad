/- The data that the laws speak of, as Lean data; the cells they are laid out in, field by field. Printed by gentypes.py; Trees that are equal but for the kind of their slices; The data, within bounds; equality of their cells, field by field. -/
import Derived.Test.YtimfbnojmdnlnaaKWpB
import Derived.Test.YtimfbnojmdnlnaaKAmA
set_option linter.all false
section
namespace Go.Proofs.Ytimfbnojmdnlnaa
namespace AM
namespace Wp
structure Lin where
 n:Bool
 c:List Int
 k:Int
structure Ref where
 a:Int
 n:Bool
 subs:List Lin
structure Exp where
 op:Int
 k:Int
 l:Lin
 r:Ref
 n:Bool
 args:List Exp
structure Rw where
 l:Lin
 div:Int
structure Part where
 n:Bool
 rows:List Rw
structure Bound where
 n:Bool
 parts:List Part
structure Cnd where
 kind:Int
 m:Int
 l:Lin
structure Piece where
 n:Bool
 conds:List Cnd
structure PSet where
 dim:Int
 n:Bool
 pieces:List Piece
structure Stm where
 kind:Int
 name:ByteArray
 low:Bound
 high:Bound
 step:Int
 mark:Int
 test:PSet
 target:Ref
 value:Exp
 bn:Bool
 body:List Stm
 en:Bool
 els:List Stm
structure Arr where
 name:ByteArray
 n:Bool
 sizes:List Lin
structure Prg where
 pn:Bool
 params:List ByteArray
 an:Bool
 arrays:List Arr
 bn:Bool
 body:List Stm
def encI (x:Int):List V:=[.int .i64 x]
def encS (s:ByteArray):List V:=[.str s]
def encLin (x:Lin):List V:=[.slice (nk x.n) (x.c.map encI), .int .i64 x.k]
def encRef (x:Ref):List V:=[.int .i64 x.a, .slice (nk x.n) (x.subs.map encLin)]
mutual
def encExp:Exp→List V
 | ⟨op,k,l,r,n,args⟩=>[.int .i64 op, .int .i64 k]++encLin l++encRef r++[.slice (nk n) (encExps args)]
def encExps:List Exp→List (List V)
 | []=>[]
 | x::xs=>encExp x::encExps xs
end
def encRw (x:Rw):List V:=encLin x.l++[.int .i64 x.div]
def encPart (x:Part):List V:=[.slice (nk x.n) (x.rows.map encRw)]
def encBound (x:Bound):List V:=[.slice (nk x.n) (x.parts.map encPart)]
def encCnd (x:Cnd):List V:=[.int .i64 x.kind, .int .i64 x.m]++encLin x.l
def encPiece (x:Piece):List V:=[.slice (nk x.n) (x.conds.map encCnd)]
def encPSet (x:PSet):List V:=[.int .i64 x.dim, .slice (nk x.n) (x.pieces.map encPiece)]
mutual
def encStm:Stm→List V
 | ⟨kind,name,low,high,step,mark,test,target,value,bn,body,en,els⟩=>[.int .i64 kind, .str name]++encBound low++encBound high++[.int .i64 step, .int .i64 mark]++encPSet test++encRef target++encExp value++[.slice (nk bn) (encStms body), .slice (nk en) (encStms els)]
def encStms:List Stm→List (List V)
 | []=>[]
 | x::xs=>encStm x::encStms xs
end
def encArr (x:Arr):List V:=[.str x.name, .slice (nk x.n) (x.sizes.map encLin)]
def encPrg (x:Prg):List V:=[.slice (nk x.pn) (x.params.map encS), .slice (nk x.an) (x.arrays.map encArr), .slice (nk x.bn) (encStms x.body)]
theorem encExps_map:∀ l,encExps l=l.map encExp
 | []=>rfl
 | x::xs=>by simp only [encExps,encExps_map xs,List.map_cons]
theorem encStms_map:∀ l,encStms l=l.map encStm
 | []=>rfl
 | x::xs=>by simp only [encStms,encStms_map xs,List.map_cons]
@[go_sem] theorem len_Lin (x:Lin):(encLin x).length=2:=by cases x; rfl
@[go_sem] theorem strip_Lin (x:Lin):(encLin x).map strip=encLin x:=by simp [encLin,strip_nk,strip_int]
@[go_sem] theorem low_Lin (x:Lin) (n:Nat):lowL n (encLin x)=true:=by cases x; simp [encLin,lowL,low]
@[go_sem] theorem all_Lin (x:Lin):cutV (encLin x) 0 2 true=some (.agg (encLin x)):=by rw [cutV_all (len_Lin x),strip_Lin]
@[go_sem] theorem f_Lin_0 (x:Lin):cutV (encLin x) 0 1 false=some (.slice (nk x.n) (x.c.map encI)):=by
 have h:cutL (encLin x) 0 1=some [.slice (nk x.n) (x.c.map encI)]:=by cases x; rfl
 simp only [cutV,h,Option.bind_some,ofCells,Bool.false_eq_true,if_false,List.map_cons,List.map_nil,strip_nk]
@[go_sem] theorem f_Lin_1 (x:Lin):cutV (encLin x) 1 1 false=some (.int .i64 x.k):=by cases x; rfl
@[go_sem] theorem len_Ref (x:Ref):(encRef x).length=2:=by cases x; rfl
@[go_sem] theorem strip_Ref (x:Ref):(encRef x).map strip=encRef x:=by simp [encRef,strip_nk,strip_int]
@[go_sem] theorem low_Ref (x:Ref) (n:Nat):lowL n (encRef x)=true:=by cases x; simp [encRef,lowL,low]
@[go_sem] theorem f_Ref_0 (x:Ref):cutV (encRef x) 0 1 false=some (.int .i64 x.a):=by cases x; rfl
@[go_sem] theorem f_Ref_1 (x:Ref):cutV (encRef x) 1 1 false=some (.slice (nk x.n) (x.subs.map encLin)):=by
 have h:cutL (encRef x) 1 1=some [.slice (nk x.n) (x.subs.map encLin)]:=by cases x; rfl
 simp only [cutV,h,Option.bind_some,ofCells,Bool.false_eq_true,if_false,List.map_cons,List.map_nil,strip_nk]
@[go_sem] theorem len_Exp (x:Exp):(encExp x).length=7:=by cases x; rfl
@[go_sem] theorem strip_Exp (x:Exp):(encExp x).map strip=encExp x:=by cases x; simp [encExp,strip_nk,strip_int,strip_str,strip_Lin,strip_Ref]
@[go_sem] theorem low_Exp (x:Exp) (n:Nat):lowL n (encExp x)=true:=by cases x; simp [encExp,lowL,low,encLin,encRef]
@[go_sem] theorem all_Exp (x:Exp):cutV (encExp x) 0 7 true=some (.agg (encExp x)):=by rw [cutV_all (len_Exp x),strip_Exp]
@[go_sem] theorem f_Exp_0 (x:Exp):cutV (encExp x) 0 1 false=some (.int .i64 x.op):=by cases x; rfl
@[go_sem] theorem f_Exp_1 (x:Exp):cutV (encExp x) 1 1 false=some (.int .i64 x.k):=by cases x; rfl
@[go_sem] theorem f_Exp_2_2 (x:Exp):cutV (encExp x) 2 2 true=some (.agg (encLin x.l)):=by
 have h:cutL (encExp x) 2 2=some (encLin x.l):=by cases x; rfl
 simp only [cutV,h,Option.bind_some,ofCells,if_true,strip_Lin]
@[go_sem] theorem f_Exp_4_2 (x:Exp):cutV (encExp x) 4 2 true=some (.agg (encRef x.r)):=by
 have h:cutL (encExp x) 4 2=some (encRef x.r):=by cases x; rfl
 simp only [cutV,h,Option.bind_some,ofCells,if_true,strip_Ref]
@[go_sem] theorem f_Exp_4 (x:Exp):cutV (encExp x) 4 1 false=some (.int .i64 x.r.a):=by cases x; rfl
@[go_sem] theorem f_Exp_5 (x:Exp):cutV (encExp x) 5 1 false=some (.slice (nk x.r.n) (x.r.subs.map encLin)):=by
 have h:cutL (encExp x) 5 1=some [.slice (nk x.r.n) (x.r.subs.map encLin)]:=by cases x; rfl
 simp only [cutV,h,Option.bind_some,ofCells,Bool.false_eq_true,if_false,List.map_cons,List.map_nil,strip_nk]
@[go_sem] theorem f_Exp_6 (x:Exp):cutV (encExp x) 6 1 false=some (.slice (nk x.n) (x.args.map encExp)):=by
 have h:cutL (encExp x) 6 1=some [.slice (nk x.n) (encExps x.args)]:=by cases x; rfl
 simp only [cutV,h,Option.bind_some,ofCells,Bool.false_eq_true,if_false,List.map_cons,List.map_nil,strip_nk,encExps_map]
@[go_sem] theorem len_Rw (x:Rw):(encRw x).length=3:=by cases x; rfl
@[go_sem] theorem strip_Rw (x:Rw):(encRw x).map strip=encRw x:=by cases x; simp [encRw,strip_nk,strip_int,strip_str,strip_Lin,strip_Ref]
@[go_sem] theorem low_Rw (x:Rw) (n:Nat):lowL n (encRw x)=true:=by cases x; simp [encRw,lowL,low,encLin]
@[go_sem] theorem all_Rw (x:Rw):cutV (encRw x) 0 3 true=some (.agg (encRw x)):=by rw [cutV_all (len_Rw x),strip_Rw]
@[go_sem] theorem f_Rw_0_2 (x:Rw):cutV (encRw x) 0 2 true=some (.agg (encLin x.l)):=by
 have h:cutL (encRw x) 0 2=some (encLin x.l):=by cases x; rfl
 simp only [cutV,h,Option.bind_some,ofCells,if_true,strip_Lin]
@[go_sem] theorem f_Rw_2 (x:Rw):cutV (encRw x) 2 1 false=some (.int .i64 x.div):=by cases x; rfl
@[go_sem] theorem len_Part (x:Part):(encPart x).length=1:=by cases x; rfl
@[go_sem] theorem f_Part_0 (x:Part):cutV (encPart x) 0 1 false=some (.slice (nk x.n) (x.rows.map encRw)):=by
 have h:cutL (encPart x) 0 1=some [.slice (nk x.n) (x.rows.map encRw)]:=by cases x; rfl
 simp only [cutV,h,Option.bind_some,ofCells,Bool.false_eq_true,if_false,List.map_cons,List.map_nil,strip_nk]
@[go_sem] theorem len_Bound (x:Bound):(encBound x).length=1:=by cases x; rfl
@[go_sem] theorem strip_Bound (x:Bound):(encBound x).map strip=encBound x:=by cases x; simp [encBound,strip_nk,strip_int,strip_str,strip_Lin,strip_Ref]
@[go_sem] theorem low_Bound (x:Bound) (n:Nat):lowL n (encBound x)=true:=by cases x; simp [encBound,lowL,low]
@[go_sem] theorem all_Bound (x:Bound):cutV (encBound x) 0 1 true=some (.agg (encBound x)):=by rw [cutV_all (len_Bound x),strip_Bound]
@[go_sem] theorem f_Bound_0 (x:Bound):cutV (encBound x) 0 1 false=some (.slice (nk x.n) (x.parts.map encPart)):=by
 have h:cutL (encBound x) 0 1=some [.slice (nk x.n) (x.parts.map encPart)]:=by cases x; rfl
 simp only [cutV,h,Option.bind_some,ofCells,Bool.false_eq_true,if_false,List.map_cons,List.map_nil,strip_nk]
@[go_sem] theorem len_Cnd (x:Cnd):(encCnd x).length=4:=by cases x; rfl
@[go_sem] theorem strip_Cnd (x:Cnd):(encCnd x).map strip=encCnd x:=by cases x; simp [encCnd,strip_nk,strip_int,strip_str,strip_Lin,strip_Ref]
@[go_sem] theorem low_Cnd (x:Cnd) (n:Nat):lowL n (encCnd x)=true:=by cases x; simp [encCnd,lowL,low,encLin]
@[go_sem] theorem all_Cnd (x:Cnd):cutV (encCnd x) 0 4 true=some (.agg (encCnd x)):=by rw [cutV_all (len_Cnd x),strip_Cnd]
@[go_sem] theorem f_Cnd_0 (x:Cnd):cutV (encCnd x) 0 1 false=some (.int .i64 x.kind):=by cases x; rfl
@[go_sem] theorem f_Cnd_1 (x:Cnd):cutV (encCnd x) 1 1 false=some (.int .i64 x.m):=by cases x; rfl
@[go_sem] theorem f_Cnd_2_2 (x:Cnd):cutV (encCnd x) 2 2 true=some (.agg (encLin x.l)):=by
 have h:cutL (encCnd x) 2 2=some (encLin x.l):=by cases x; rfl
 simp only [cutV,h,Option.bind_some,ofCells,if_true,strip_Lin]
@[go_sem] theorem f_Cnd_2 (x:Cnd):cutV (encCnd x) 2 1 false=some (.slice (nk x.l.n) (x.l.c.map encI)):=by
 have h:cutL (encCnd x) 2 1=some [.slice (nk x.l.n) (x.l.c.map encI)]:=by cases x; rfl
 simp only [cutV,h,Option.bind_some,ofCells,Bool.false_eq_true,if_false,List.map_cons,List.map_nil,strip_nk]
@[go_sem] theorem len_Piece (x:Piece):(encPiece x).length=1:=by cases x; rfl
@[go_sem] theorem f_Piece_0 (x:Piece):cutV (encPiece x) 0 1 false=some (.slice (nk x.n) (x.conds.map encCnd)):=by
 have h:cutL (encPiece x) 0 1=some [.slice (nk x.n) (x.conds.map encCnd)]:=by cases x; rfl
 simp only [cutV,h,Option.bind_some,ofCells,Bool.false_eq_true,if_false,List.map_cons,List.map_nil,strip_nk]
@[go_sem] theorem len_PSet (x:PSet):(encPSet x).length=2:=by cases x; rfl
@[go_sem] theorem strip_PSet (x:PSet):(encPSet x).map strip=encPSet x:=by cases x; simp [encPSet,strip_nk,strip_int,strip_str,strip_Lin,strip_Ref]
@[go_sem] theorem low_PSet (x:PSet) (n:Nat):lowL n (encPSet x)=true:=by cases x; simp [encPSet,lowL,low]
@[go_sem] theorem all_PSet (x:PSet):cutV (encPSet x) 0 2 true=some (.agg (encPSet x)):=by rw [cutV_all (len_PSet x),strip_PSet]
@[go_sem] theorem f_PSet_0 (x:PSet):cutV (encPSet x) 0 1 false=some (.int .i64 x.dim):=by cases x; rfl
@[go_sem] theorem f_PSet_1 (x:PSet):cutV (encPSet x) 1 1 false=some (.slice (nk x.n) (x.pieces.map encPiece)):=by
 have h:cutL (encPSet x) 1 1=some [.slice (nk x.n) (x.pieces.map encPiece)]:=by cases x; rfl
 simp only [cutV,h,Option.bind_some,ofCells,Bool.false_eq_true,if_false,List.map_cons,List.map_nil,strip_nk]
@[go_sem] theorem len_Stm (x:Stm):(encStm x).length=19:=by cases x; rename_i v _ _ _ _; cases v; rfl
@[go_sem] theorem strip_Stm (x:Stm):(encStm x).map strip=encStm x:=by cases x; simp [encStm,strip_nk,strip_int,strip_str,strip_Lin,strip_Ref,strip_Bound,strip_PSet,strip_Exp]
@[go_sem] theorem low_Stm (x:Stm) (n:Nat):lowL n (encStm x)=true:=by cases x; rename_i v _ _ _ _; cases v; simp [encStm,lowL,low,encExp,encLin,encRef,encBound,encPSet]
@[go_sem] theorem all_Stm (x:Stm):cutV (encStm x) 0 19 true=some (.agg (encStm x)):=by rw [cutV_all (len_Stm x),strip_Stm]
@[go_sem] theorem f_Stm_0 (x:Stm):cutV (encStm x) 0 1 false=some (.int .i64 x.kind):=by cases x; rename_i v _ _ _ _; cases v; rfl
@[go_sem] theorem f_Stm_1 (x:Stm):cutV (encStm x) 1 1 false=some (.str x.name):=by cases x; rename_i v _ _ _ _; cases v; rfl
@[go_sem] theorem f_Stm_2_1 (x:Stm):cutV (encStm x) 2 1 true=some (.agg (encBound x.low)):=by
 have h:cutL (encStm x) 2 1=some (encBound x.low):=by cases x; rename_i v _ _ _ _; cases v; rfl
 simp only [cutV,h,Option.bind_some,ofCells,if_true,strip_Bound]
@[go_sem] theorem f_Stm_2 (x:Stm):cutV (encStm x) 2 1 false=some (.slice (nk x.low.n) (x.low.parts.map encPart)):=by
 have h:cutL (encStm x) 2 1=some [.slice (nk x.low.n) (x.low.parts.map encPart)]:=by cases x; rename_i v _ _ _ _; cases v; rfl
 simp only [cutV,h,Option.bind_some,ofCells,Bool.false_eq_true,if_false,List.map_cons,List.map_nil,strip_nk]
@[go_sem] theorem f_Stm_3_1 (x:Stm):cutV (encStm x) 3 1 true=some (.agg (encBound x.high)):=by
 have h:cutL (encStm x) 3 1=some (encBound x.high):=by cases x; rename_i v _ _ _ _; cases v; rfl
 simp only [cutV,h,Option.bind_some,ofCells,if_true,strip_Bound]
@[go_sem] theorem f_Stm_3 (x:Stm):cutV (encStm x) 3 1 false=some (.slice (nk x.high.n) (x.high.parts.map encPart)):=by
 have h:cutL (encStm x) 3 1=some [.slice (nk x.high.n) (x.high.parts.map encPart)]:=by cases x; rename_i v _ _ _ _; cases v; rfl
 simp only [cutV,h,Option.bind_some,ofCells,Bool.false_eq_true,if_false,List.map_cons,List.map_nil,strip_nk]
@[go_sem] theorem f_Stm_4 (x:Stm):cutV (encStm x) 4 1 false=some (.int .i64 x.step):=by cases x; rename_i v _ _ _ _; cases v; rfl
@[go_sem] theorem f_Stm_5 (x:Stm):cutV (encStm x) 5 1 false=some (.int .i64 x.mark):=by cases x; rename_i v _ _ _ _; cases v; rfl
@[go_sem] theorem f_Stm_6_2 (x:Stm):cutV (encStm x) 6 2 true=some (.agg (encPSet x.test)):=by
 have h:cutL (encStm x) 6 2=some (encPSet x.test):=by cases x; rename_i v _ _ _ _; cases v; rfl
 simp only [cutV,h,Option.bind_some,ofCells,if_true,strip_PSet]
@[go_sem] theorem f_Stm_6 (x:Stm):cutV (encStm x) 6 1 false=some (.int .i64 x.test.dim):=by cases x; rename_i v _ _ _ _; cases v; rfl
@[go_sem] theorem f_Stm_7 (x:Stm):cutV (encStm x) 7 1 false=some (.slice (nk x.test.n) (x.test.pieces.map encPiece)):=by
 have h:cutL (encStm x) 7 1=some [.slice (nk x.test.n) (x.test.pieces.map encPiece)]:=by cases x; rename_i v _ _ _ _; cases v; rfl
 simp only [cutV,h,Option.bind_some,ofCells,Bool.false_eq_true,if_false,List.map_cons,List.map_nil,strip_nk]
@[go_sem] theorem f_Stm_8_2 (x:Stm):cutV (encStm x) 8 2 true=some (.agg (encRef x.target)):=by
 have h:cutL (encStm x) 8 2=some (encRef x.target):=by cases x; rename_i v _ _ _ _; cases v; rfl
 simp only [cutV,h,Option.bind_some,ofCells,if_true,strip_Ref]
@[go_sem] theorem f_Stm_8 (x:Stm):cutV (encStm x) 8 1 false=some (.int .i64 x.target.a):=by cases x; rename_i v _ _ _ _; cases v; rfl
@[go_sem] theorem f_Stm_9 (x:Stm):cutV (encStm x) 9 1 false=some (.slice (nk x.target.n) (x.target.subs.map encLin)):=by
 have h:cutL (encStm x) 9 1=some [.slice (nk x.target.n) (x.target.subs.map encLin)]:=by cases x; rename_i v _ _ _ _; cases v; rfl
 simp only [cutV,h,Option.bind_some,ofCells,Bool.false_eq_true,if_false,List.map_cons,List.map_nil,strip_nk]
@[go_sem] theorem f_Stm_10_7 (x:Stm):cutV (encStm x) 10 7 true=some (.agg (encExp x.value)):=by
 have h:cutL (encStm x) 10 7=some (encExp x.value):=by cases x; rename_i v _ _ _ _; cases v; rfl
 simp only [cutV,h,Option.bind_some,ofCells,if_true,strip_Exp]
@[go_sem] theorem f_Stm_17 (x:Stm):cutV (encStm x) 17 1 false=some (.slice (nk x.bn) (x.body.map encStm)):=by
 have h:cutL (encStm x) 17 1=some [.slice (nk x.bn) (encStms x.body)]:=by cases x; rename_i v _ _ _ _; cases v; rfl
 simp only [cutV,h,Option.bind_some,ofCells,Bool.false_eq_true,if_false,List.map_cons,List.map_nil,strip_nk,encStms_map]
@[go_sem] theorem f_Stm_18 (x:Stm):cutV (encStm x) 18 1 false=some (.slice (nk x.en) (x.els.map encStm)):=by
 have h:cutL (encStm x) 18 1=some [.slice (nk x.en) (encStms x.els)]:=by cases x; rename_i v _ _ _ _; cases v; rfl
 simp only [cutV,h,Option.bind_some,ofCells,Bool.false_eq_true,if_false,List.map_cons,List.map_nil,strip_nk,encStms_map]
@[go_sem] theorem len_Arr (x:Arr):(encArr x).length=2:=by cases x; rfl
@[go_sem] theorem strip_Arr (x:Arr):(encArr x).map strip=encArr x:=by cases x; simp [encArr,strip_nk,strip_int,strip_str,strip_Lin,strip_Ref]
@[go_sem] theorem low_Arr (x:Arr) (n:Nat):lowL n (encArr x)=true:=by cases x; simp [encArr,lowL,low]
@[go_sem] theorem all_Arr (x:Arr):cutV (encArr x) 0 2 true=some (.agg (encArr x)):=by rw [cutV_all (len_Arr x),strip_Arr]
@[go_sem] theorem f_Arr_0 (x:Arr):cutV (encArr x) 0 1 false=some (.str x.name):=by cases x; rfl
@[go_sem] theorem f_Arr_1 (x:Arr):cutV (encArr x) 1 1 false=some (.slice (nk x.n) (x.sizes.map encLin)):=by
 have h:cutL (encArr x) 1 1=some [.slice (nk x.n) (x.sizes.map encLin)]:=by cases x; rfl
 simp only [cutV,h,Option.bind_some,ofCells,Bool.false_eq_true,if_false,List.map_cons,List.map_nil,strip_nk]
@[go_sem] theorem len_Prg (x:Prg):(encPrg x).length=3:=by cases x; rfl
@[go_sem] theorem strip_Prg (x:Prg):(encPrg x).map strip=encPrg x:=by cases x; simp [encPrg,strip_nk,strip_int,strip_str,strip_Lin,strip_Ref]
@[go_sem] theorem low_Prg (x:Prg) (n:Nat):lowL n (encPrg x)=true:=by cases x; simp [encPrg,lowL,low]
@[go_sem] theorem all_Prg (x:Prg):cutV (encPrg x) 0 3 true=some (.agg (encPrg x)):=by rw [cutV_all (len_Prg x),strip_Prg]
@[go_sem] theorem f_Prg_0 (x:Prg):cutV (encPrg x) 0 1 false=some (.slice (nk x.pn) (x.params.map encS)):=by
 have h:cutL (encPrg x) 0 1=some [.slice (nk x.pn) (x.params.map encS)]:=by cases x; rfl
 simp only [cutV,h,Option.bind_some,ofCells,Bool.false_eq_true,if_false,List.map_cons,List.map_nil,strip_nk]
@[go_sem] theorem f_Prg_1 (x:Prg):cutV (encPrg x) 1 1 false=some (.slice (nk x.an) (x.arrays.map encArr)):=by
 have h:cutL (encPrg x) 1 1=some [.slice (nk x.an) (x.arrays.map encArr)]:=by cases x; rfl
 simp only [cutV,h,Option.bind_some,ofCells,Bool.false_eq_true,if_false,List.map_cons,List.map_nil,strip_nk]
@[go_sem] theorem f_Prg_2 (x:Prg):cutV (encPrg x) 2 1 false=some (.slice (nk x.bn) (x.body.map encStm)):=by
 have h:cutL (encPrg x) 2 1=some [.slice (nk x.bn) (encStms x.body)]:=by cases x; rfl
 simp only [cutV,h,Option.bind_some,ofCells,Bool.false_eq_true,if_false,List.map_cons,List.map_nil,strip_nk,encStms_map]
@[go_sem] theorem len_I (x:Int):(encI x).length=1:=_root_.id rfl
@[go_sem] theorem one_I (x:Int):cutV (encI x) 0 1 false=some (.int .i64 x):=_root_.id rfl
@[go_sem] theorem lens_I (l:List Int):allLen 1 (l.map encI)=true:=by simp [allLen,len_I]
@[go_sem] theorem len_S (x:ByteArray):(encS x).length=1:=_root_.id rfl
@[go_sem] theorem one_S (x:ByteArray):cutV (encS x) 0 1 false=some (.str x):=_root_.id rfl
@[go_sem] theorem lens_S (l:List ByteArray):allLen 1 (l.map encS)=true:=by simp [allLen,len_S]
end Wp
end AM
end Go.Proofs.Ytimfbnojmdnlnaa
end
section
namespace Go.Proofs.Ytimfbnojmdnlnaa
namespace AM
mutual
def eqv:V→V→Bool
 | .bool a, .bool b=>a == b
 | .int _ a, .int _ b=>a == b
 | .str a, .str b=>a.toList == b.toList
 | .slice _ xs, .slice _ ys=>eqvR xs ys
 | _,_=>false
def eqvL:List V→List V→Bool
 | [],[]=>true
 | a::as,b::bs=>eqv a b&&eqvL as bs
 | _,_=>false
def eqvR:List (List V)→List (List V)→Bool
 | [],[]=>true
 | a::as,b::bs=>eqvL a b&&eqvR as bs
 | _,_=>false
end
theorem eqvR_all:∀ {xs ys:List (List V)},xs.length=ys.length→(∀ (i:Nat) (x y:List V),xs[i]?=some x→ys[i]?=some y→eqvL x y=true)→eqvR xs ys=true
 | [],[],_,_=>by simp [eqvR]
 | [],_::_,h,_=>by simp at h
 | _::_,[],h,_=>by simp at h
 | a::as,b::bs,hl,h=>by
  simp only [eqvR,Bool.and_eq_true]
  exact ⟨h 0 a b rfl rfl,eqvR_all (by simpa using hl) fun i x y hx hy=>h (i+1) x y (by simpa using hx) (by simpa using hy)⟩
mutual
theorem eqv_comm:∀ a b,eqv a b=eqv b a
 | .bool a,w=>by cases w<;>simp [eqv,Bool.beq_comm]
 | .int _ a,w=>by cases w<;>simp [eqv,Bool.beq_comm]
 | .str a,w=>by cases w<;>simp [eqv]; exact Bool.beq_comm
 | .slice _ xs,w=>by cases w<;>simp [eqv]; exact eqvR_comm xs _
 | .undef,w=>by cases w<;>simp [eqv]
 | .ptr _ _ _,w=>by cases w<;>simp [eqv]
 | .nilp,w=>by cases w<;>simp [eqv]
 | .look _,w=>by cases w<;>simp [eqv]
 | .func _ _,w=>by cases w<;>simp [eqv]
 | .nilf,w=>by cases w<;>simp [eqv]
 | .ifc _ _,w=>by cases w<;>simp [eqv]
 | .nili,w=>by cases w<;>simp [eqv]
 | .agg _,w=>by cases w<;>simp [eqv]
 | .tup _,w=>by cases w<;>simp [eqv]
 | .fresh _,w=>by cases w<;>simp [eqv]
 | .mir _ _ _ _ _,w=>by cases w<;>simp [eqv]
 | .bsl _ _ _ _ _ _,w=>by cases w<;>simp [eqv]
theorem eqvL_comm:∀ as bs,eqvL as bs=eqvL bs as
 | [],[]=>rfl
 | [],_::_=>by simp [eqvL]
 | _::_,[]=>by simp [eqvL]
 | a::as,b::bs=>by simp only [eqvL]; rw [eqv_comm a b,eqvL_comm as bs]
theorem eqvR_comm:∀ as bs,eqvR as bs=eqvR bs as
 | [],[]=>rfl
 | [],_::_=>by simp [eqvR]
 | _::_,[]=>by simp [eqvR]
 | a::as,b::bs=>by simp only [eqvR]; rw [eqvL_comm a b,eqvR_comm as bs]
end
end AM
end Go.Proofs.Ytimfbnojmdnlnaa
end
section
namespace Go.Proofs.Ytimfbnojmdnlnaa
namespace AM
namespace Wp
abbrev LIM:Nat:=9223372036854775807
def inI (x:Int):Prop:=-9223372036854775808≤x∧x≤9223372036854775807
structure OkLin (x:Lin):Prop where
 c:x.c.length≤LIM
 ci:∀ i∈x.c,inI i
 k:inI x.k
 z:x.n=true→x.c=[]
structure OkRef (x:Ref):Prop where
 a:inI x.a
 l:x.subs.length≤LIM
 s:∀ y∈x.subs,OkLin y
 z:x.n=true→x.subs=[]
inductive OkExp:Exp→Prop where
 | mk (x:Exp) (op:inI x.op) (k:inI x.k) (l:OkLin x.l) (r:OkRef x.r) (n:x.args.length≤LIM) (s:∀ y∈x.args,OkExp y) (z:x.n=true→x.args=[]):OkExp x
structure OkRw (x:Rw):Prop where
 l:OkLin x.l
 d:inI x.div
structure OkPart (x:Part):Prop where
 l:x.rows.length≤LIM
 s:∀ y∈x.rows,OkRw y
 z:x.n=true→x.rows=[]
structure OkBound (x:Bound):Prop where
 l:x.parts.length≤LIM
 s:∀ y∈x.parts,OkPart y
 z:x.n=true→x.parts=[]
structure OkCnd (x:Cnd):Prop where
 k:inI x.kind
 m:inI x.m
 l:OkLin x.l
structure OkPiece (x:Piece):Prop where
 l:x.conds.length≤LIM
 s:∀ y∈x.conds,OkCnd y
 z:x.n=true→x.conds=[]
structure OkPSet (x:PSet):Prop where
 d:inI x.dim
 l:x.pieces.length≤LIM
 s:∀ y∈x.pieces,OkPiece y
 z:x.n=true→x.pieces=[]
inductive OkStm:Stm→Prop where
 | mk (x:Stm) (kind:inI x.kind) (name:x.name.size≤LIM) (low:OkBound x.low) (high:OkBound x.high) (step:inI x.step) (mark:inI x.mark) (test:OkPSet x.test) (target:OkRef x.target) (value:OkExp x.value)
  (bn:x.body.length≤LIM) (body:∀ y∈x.body,OkStm y) (en:x.els.length≤LIM) (els:∀ y∈x.els,OkStm y) (bz:x.bn=true→x.body=[]) (ez:x.en=true→x.els=[]):OkStm x
structure OkArr (x:Arr):Prop where
 name:x.name.size≤LIM
 l:x.sizes.length≤LIM
 s:∀ y∈x.sizes,OkLin y
 z:x.n=true→x.sizes=[]
structure OkPrg (x:Prg):Prop where
 pz:x.pn=true→x.params=[]
 pl:x.params.length≤LIM
 ps:∀ s∈x.params,s.size≤LIM
 al:x.arrays.length≤LIM
 as:∀ y∈x.arrays,OkArr y
 bl:x.body.length≤LIM
 bs:∀ y∈x.body,OkStm y
 az:x.an=true→x.arrays=[]
 bz:x.bn=true→x.body=[]
section
variable {x:Exp}
theorem OkExp.z' (h:OkExp x):x.n=true→x.args=[]:=by cases h; assumption
theorem OkExp.op' (h:OkExp x):inI x.op:=by cases h; assumption
theorem OkExp.k' (h:OkExp x):inI x.k:=by cases h; assumption
theorem OkExp.l' (h:OkExp x):OkLin x.l:=by cases h; assumption
theorem OkExp.r' (h:OkExp x):OkRef x.r:=by cases h; assumption
theorem OkExp.n' (h:OkExp x):x.args.length≤LIM:=by cases h; assumption
theorem OkExp.s' (h:OkExp x):∀ y∈x.args,OkExp y:=by cases h; assumption
end
section
variable {x:Stm}
theorem OkStm.low' (h:OkStm x):OkBound x.low:=by cases h; assumption
theorem OkStm.high' (h:OkStm x):OkBound x.high:=by cases h; assumption
theorem OkStm.test' (h:OkStm x):OkPSet x.test:=by cases h; assumption
theorem OkStm.target' (h:OkStm x):OkRef x.target:=by cases h; assumption
theorem OkStm.value' (h:OkStm x):OkExp x.value:=by cases h; assumption
theorem OkStm.bn' (h:OkStm x):x.body.length≤LIM:=by cases h; assumption
theorem OkStm.body' (h:OkStm x):∀ y∈x.body,OkStm y:=by cases h; assumption
theorem OkStm.en' (h:OkStm x):x.els.length≤LIM:=by cases h; assumption
theorem OkStm.els' (h:OkStm x):∀ y∈x.els,OkStm y:=by cases h; assumption
end
theorem Exp.ind {P:Exp→Prop} (h:∀ x,(∀ y∈x.args,P y)→P x):∀ x,P x
 | ⟨op,k,l,r,n,args⟩=>h _ fun y hy=>by
  have:=List.sizeOf_lt_of_mem hy
  exact Exp.ind h y
 termination_by x=>SizeOf.sizeOf x
 decreasing_by simp; simp at hy; have:=List.sizeOf_lt_of_mem hy; omega
theorem Stm.ind {P:Stm→Prop} (h:∀ x,(∀ y∈x.body,P y)→(∀ y∈x.els,P y)→P x):∀ x,P x
 | ⟨a,b,c,d,e,f,g,i,j,k,body,n,els⟩=>h _ (fun y hy=>Stm.ind h y) (fun y hy=>Stm.ind h y)
 termination_by x=>SizeOf.sizeOf x
 decreasing_by
 all_goals simp; simp at hy; have:=List.sizeOf_lt_of_mem hy; omega
end Wp
end AM
end Go.Proofs.Ytimfbnojmdnlnaa
end
