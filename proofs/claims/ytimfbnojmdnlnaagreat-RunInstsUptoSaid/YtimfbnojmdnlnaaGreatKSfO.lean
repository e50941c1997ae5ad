/- run.fitting. -/
import Derived.Test.YtimfbnojmdnlnaaGreatKM34
import Derived.Test.YtimfbnojmdnlnaaGreatKSeS
set_option linter.all false
set_option maxRecDepth 100000
namespace Go.Proofs.YtimfbnojmdnlnaaGreat
namespace AM
namespace Wp
def outI (n : Int) : Bool := decide (n < -2147483648) || decide (2147483648 ≤ n)
def fitP (q : Mem × Shape) : Bool := decide ((q.1.row.length : Int) = q.2.cells) && !decide (0 ≤ idxF outI 0 q.1.row)
def fitV (mem : List Mem) (sh : List Shape) : Bool := decide (mem.length = sh.length) && (mem.zip sh).all fitP
end Wp
end AM
end Go.Proofs.YtimfbnojmdnlnaaGreat
