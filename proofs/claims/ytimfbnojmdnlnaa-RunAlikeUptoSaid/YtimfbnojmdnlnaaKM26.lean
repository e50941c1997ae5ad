/- The guard of the Run laws, and the example of the chapter; Mod, both sides. -/
import Derived.Test.YtimfbnojmdnlnaaKSbL
import Derived.Test.YtimfbnojmdnlnaaKM23
set_option linter.all false
set_option maxRecDepth 100000
section
namespace Go.Proofs.Ytimfbnojmdnlnaa
namespace AM
namespace Wp
structure Mem where
 n:Bool
 row:List Int
def encMem (x:Mem):List V:=[.slice (nk x.n) (x.row.map encI)]
end Wp
end AM
end Go.Proofs.Ytimfbnojmdnlnaa
end
section
namespace Go.Proofs.Ytimfbnojmdnlnaa
namespace AM
namespace Wp
def modI (x m:Int):Int:=if x.tmod m < 0 then IntKind.i64.wrap (x.tmod m+m) else x.tmod m
end Wp
end AM
end Go.Proofs.Ytimfbnojmdnlnaa
end
