/- Equality of slices, element by element; Every tree is like itself. -/
import Derived.Test.YtimfbnojmdnlnaaKWpC
import Derived.Test.YtimfbnojmdnlnaaKM5
import Derived.Test.YtimfbnojmdnlnaaKLaH
set_option linter.all false
set_option maxRecDepth 100000
section
namespace Go.Proofs.Ytimfbnojmdnlnaa
namespace AM
namespace Wp
def EqTo (xs ys:List (List V)) (k:Nat):Prop:=∀ (i:Nat) (x y:List V),i < k→xs[i]?=some x→ys[i]?=some y→eqvL x y=true
theorem EqTo.zero {xs ys:List (List V)}:EqTo xs ys 0:=fun _ _ _ h=>absurd h (by omega)
theorem EqTo.succ {xs ys:List (List V)} {k:Nat} {x y:List V} (h:EqTo xs ys k) (hx:xs[k]?=some x) (hy:ys[k]?=some y) (he:eqvL x y=true):EqTo xs ys (k+1):=fun i x' y' hi hx' hy'=>by
 rcases Nat.lt_succ_iff_lt_or_eq.1 hi with h1 | h1
 ·exact h i x' y' h1 hx' hy'
 ·subst h1; rw [hx] at hx'; rw [hy] at hy'; cases hx'; cases hy'; exact he
theorem EqTo.all {xs ys:List (List V)} (hl:xs.length=ys.length) (h:EqTo xs ys xs.length):eqvR xs ys=true:=eqvR_all hl fun i x y hx hy=>h i x y (List.getElem?_eq_some_iff.1 hx).1 hx hy
end Wp
end AM
end Go.Proofs.Ytimfbnojmdnlnaa
end
section
namespace Go.Proofs.Ytimfbnojmdnlnaa
namespace AM
namespace Wp
end Wp
end AM
end Go.Proofs.Ytimfbnojmdnlnaa
end
