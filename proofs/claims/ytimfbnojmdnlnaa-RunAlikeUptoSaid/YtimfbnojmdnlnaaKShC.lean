/- The reference's Wrap, Ceil, Floor, Low, High, Coord, Is, Assigns. -/
import Derived.Test.YtimfbnojmdnlnaaKM40
import Derived.Test.YtimfbnojmdnlnaaKSeE
set_option linter.all false
set_option maxRecDepth 100000
namespace Go.Proofs.Ytimfbnojmdnlnaa
namespace AM
namespace Wp
def OkPc (nv:Nat) (p:Piece):Prop:=p.conds.length≤LIM∧∀ c∈p.conds,OkCnd c∧(c.m≠0∨c.kind=0∨c.kind=1)∧c.l.c.length≤nv
def OkTst (nv:Nat) (t:PSet):Prop:=t.pieces.length≤LIM∧∀ p∈t.pieces,OkPc nv p
end Wp
end AM
end Go.Proofs.Ytimfbnojmdnlnaa
