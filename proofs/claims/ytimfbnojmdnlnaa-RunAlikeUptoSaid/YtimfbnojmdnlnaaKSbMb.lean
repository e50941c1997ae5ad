/- The reference's Check; small trees. -/
import Derived.Test.YtimfbnojmdnlnaaKM17
import Derived.Test.YtimfbnojmdnlnaaKM23
set_option linter.all false
set_option maxRecDepth 100000
namespace Go.Proofs.Ytimfbnojmdnlnaa
namespace AM
namespace Wp
mutual
theorem wt_Exp:∀ x,cntE x≤wtL (encExp x)
 | ⟨op,k,l,r,n,args⟩=>by
  have:=wt_Exps args
  simp only [cntE,encExp,wtL_append,wtL,wt]
  omega
theorem wt_Exps:∀ xs,cntEs xs≤wtR (encExps xs)
 | []=>by simp [cntEs]
 | x::xs=>by
  have:=wt_Exp x
  have:=wt_Exps xs
  simp only [cntEs,encExps,wtR]
  omega
end
end Wp
end AM
end Go.Proofs.Ytimfbnojmdnlnaa
