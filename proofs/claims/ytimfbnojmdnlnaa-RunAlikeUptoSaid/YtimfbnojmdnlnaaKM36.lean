/- The reference's copies of expressions and bounds; The reference's copies of sets and of the terms of an assignment; The reference's copies of statements and programs. -/
import Derived.Test.YtimfbnojmdnlnaaKSeD
import Derived.Test.YtimfbnojmdnlnaaKM23
import Derived.Test.YtimfbnojmdnlnaaKM18
set_option linter.all false
set_option maxRecDepth 100000
section
namespace Go.Proofs.Ytimfbnojmdnlnaa
namespace AM
namespace Wp
theorem rwtR_len {α:Type} {enc:α→List V} (h1:∀ x,1≤wtL (enc x)):∀ l:List α,l.length≤wtR (l.map enc)
 | []=>by simp
 | x::l=>by
  have:=h1 x
  have:=rwtR_len h1 l
  simp only [List.map_cons,wtR,List.length_cons]; omega
def rcLin (x:Lin):Lin:=⟨false,x.c,x.k⟩
def rcRw (r:Rw):Rw:=⟨rcLin r.l,r.div⟩
def rcPart (q:Part):Part:=⟨q.rows.isEmpty,q.rows.map rcRw⟩
def rcBound (b:Bound):Bound:=⟨b.parts.isEmpty,b.parts.map rcPart⟩
end Wp
end AM
end Go.Proofs.Ytimfbnojmdnlnaa
end
section
namespace Go.Proofs.Ytimfbnojmdnlnaa
namespace AM
namespace Wp
def raggC (a:V):Option V→Option V
 | some (.agg l)=>some (.agg (a::l))
 | _=>none
def rcCnd (c:Cnd):Cnd:=⟨c.kind,c.m,rcLin c.l⟩
def rcPiece (q:Piece):Piece:=⟨q.conds.isEmpty,q.conds.map rcCnd⟩
def rcPSet (t:PSet):PSet:=⟨t.dim,t.pieces.isEmpty,t.pieces.map rcPiece⟩
mutual
def rcExp:Exp→Exp
 | ⟨op,k,l,r,_,args⟩=>⟨op,k,rcLin l,⟨r.a,r.subs.isEmpty,r.subs.map rcLin⟩,args.isEmpty,rcExps args⟩
def rcExps:List Exp→List Exp
 | []=>[]
 | x::xs=>rcExp x::rcExps xs
end
end Wp
end AM
end Go.Proofs.Ytimfbnojmdnlnaa
end
section
namespace Go.Proofs.Ytimfbnojmdnlnaa
namespace AM
namespace Wp
mutual
def rcStm:Stm→Stm
 | ⟨kind,name,low,high,step,mark,test,target,value,bn,body,en,els⟩=>⟨kind,name,rcBound low,rcBound high,step,mark,rcPSet test,⟨target.a,target.subs.isEmpty,target.subs.map rcLin⟩,rcExp value,body.isEmpty,rcStms body,els.isEmpty,rcStms els⟩
def rcStms:List Stm→List Stm
 | []=>[]
 | x::xs=>rcStm x::rcStms xs
end
def rcellsStm (x:Stm):List V:=[.int .i64 x.kind, .str x.name, .slice (nk x.low.n) (x.low.parts.map encPart), .slice (nk x.high.n) (x.high.parts.map encPart), .int .i64 x.step, .int .i64 x.mark, .int .i64 x.test.dim, .slice (nk x.test.n) (x.test.pieces.map encPiece),
 .int .i64 x.target.a, .slice (nk x.target.n) (x.target.subs.map encLin), .int .i64 x.value.op, .int .i64 x.value.k, .slice (nk x.value.l.n) (x.value.l.c.map encI), .int .i64 x.value.l.k, .int .i64 x.value.r.a, .slice (nk x.value.r.n) (x.value.r.subs.map encLin), .slice (nk x.value.n) (x.value.args.map encExp),
 .slice (nk x.bn) (x.body.map encStm), .slice (nk x.en) (x.els.map encStm)]
end Wp
end AM
end Go.Proofs.Ytimfbnojmdnlnaa
end
