/- The reference's Copy; a copy is like what it is made of. -/
import Derived.Test.YtimfbnojmdnlnaaKM36
import Derived.Test.YtimfbnojmdnlnaaKM37
set_option linter.all false
set_option maxRecDepth 100000
namespace Go.Proofs.Ytimfbnojmdnlnaa
namespace AM
namespace Wp
def rcArr (a:Arr):Arr:=⟨a.name,a.sizes.isEmpty,a.sizes.map rcLin⟩
def rcPrg (p:Prg):Prg:=⟨false,p.params,p.arrays.isEmpty,p.arrays.map rcArr,p.body.isEmpty,p.body.map rcStm⟩
end Wp
end AM
end Go.Proofs.Ytimfbnojmdnlnaa
