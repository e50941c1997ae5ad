/- The reference's Check; small trees. -/
import Derived.Test.YtimfbnojmdnlnaaGreatKM17
import Derived.Test.YtimfbnojmdnlnaaGreatKM24
set_option linter.all false
set_option maxRecDepth 100000
namespace Go.Proofs.YtimfbnojmdnlnaaGreat
namespace AM
namespace Wp
theorem refcheck_ok {p:Prg} (hp:OkPrg p) (hm:∀ s∈p.body,SmS s):Sp theEnv 31 [.agg (encPrg p)] (.int .i64 (if refPrg p then 0 else 1)):=by
 refine Sp.fn rfl rfl rfl sx sy fun S=>?_; simp only [a31,c31,go_sem,simprocAttr]
 simp only [(valid_ref hp hm).call,go_sem,simprocAttr,Run_if]
 cases refPrg p<;>simp only [go_sem,simprocAttr]
mutual
theorem wt_Exp:∀ x,cntE x≤wtL (encExp x)
 | ⟨op,k,l,r,n,args⟩=>by
  have:=wt_Exps args
  simp only [cntE,encExp,wtL_append,wtL,wt]
  omega
theorem wt_Exps:∀ xs,cntEs xs≤wtR (encExps xs)
 | []=>by simp [cntEs]
 | x::xs=>by
  have:=wt_Exp x
  have:=wt_Exps xs
  simp only [cntEs,encExps,wtR]
  omega
end
theorem sm_stm:∀ x,OkStm x→wtL (encStm x)≤1000000000→SmS x:=by
 intro x h
 induction h with
 | mk x kind name low high step mark test target value bn body en els bz ez ihb ihe =>
  intro hw
  have h0:=wt_Exp x.value
  have hx:wtL (encStm x)=wtL (encExp x.value)+wtR (x.body.map encStm)+wtR (x.els.map encStm)+(wtL (encStm x) - (wtL (encExp x.value)+wtR (x.body.map encStm)+wtR (x.els.map encStm))):=by
   have:wtL (encExp x.value)+wtR (x.body.map encStm)+wtR (x.els.map encStm)≤wtL (encStm x):=by
    cases x
    simp only [encStm,wtL_append,wtL,wt,encStms_map]
    omega
   omega
  refine .mk _ (by omega) (fun y hy=>ihb y hy ?_) fun y hy=>ihe y hy ?_
  ·have:=wtR_mem (List.mem_map_of_mem (f:=encStm) hy); omega
  ·have:=wtR_mem (List.mem_map_of_mem (f:=encStm) hy); omega
theorem sm_prg {p:Prg} (hp:OkPrg p) (hw:wtL (encPrg p)≤1000000000):∀ s∈p.body,SmS s:=by
 intro s hs
 refine sm_stm s (hp.bs s hs) ?_
 have:=wtR_mem (List.mem_map_of_mem (f:=encStm) hs)
 simp only [encPrg,wtL,wt,encStms_map] at hw
 omega
end Wp
end AM
end Go.Proofs.YtimfbnojmdnlnaaGreat
