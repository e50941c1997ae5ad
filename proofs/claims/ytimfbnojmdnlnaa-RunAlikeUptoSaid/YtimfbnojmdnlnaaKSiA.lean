/- How many assignments there are: the program's count is the reference's. -/
import Derived.Test.YtimfbnojmdnlnaaKM32
import Derived.Test.YtimfbnojmdnlnaaKM40
set_option linter.all false
set_option maxRecDepth 100000
namespace Go.Proofs.Ytimfbnojmdnlnaa
namespace AM
namespace Wp
inductive OkAs:Stm→Prop
 | loop {s:Stm} (h:s.kind=1) (he:s.els=[]) (hb:∀ t∈s.body,OkAs t):OkAs s
 | test {s:Stm} (h:s.kind=2) (hb:∀ t∈s.body,OkAs t) (he:∀ t∈s.els,OkAs t):OkAs s
 | asg {s:Stm} (h:s.kind=3) (hb:s.body=[]) (he:s.els=[]):OkAs s
theorem asgL_n:∀ (l:List Stm) (n:Int),(∀ s∈l, ∀ n:Int,0≤n→n+(nAsgS s:Int)≤1000000000→asgS n s=n+nAsgS s)→0≤n→n+(nAsg l:Int)≤1000000000→asgL n l=n+nAsg l
 | [],n,_,_,_=>by rw [asgL,nAsg]; simp
 | s::l,n,h,h0,h1=>by
  rw [nAsg] at h1
  have hs:=h s (by simp) n h0 (by omega)
  rw [asgL,nAsg,hs,asgL_n l _ (fun t ht=>h t (List.mem_cons_of_mem _ ht)) (by omega) (by omega)]
  omega
theorem asgS_n:∀ s:Stm,OkAs s→∀ n:Int,0≤n→n+(nAsgS s:Int)≤1000000000→asgS n s=n+nAsgS s:=by
 refine Stm.ind fun s ihb ihe hs n h0 h1=>?_
 rw [nAsgS_eq] at h1
 rw [asgS_eq,nAsgS_eq]
 cases hs with
 | loop hk he hb =>
  rw [if_pos hk] at h1
  rw [if_pos hk,if_neg (show ¬ s.kind=3 by omega),he,asgL,asgL_n s.body 0 (fun t ht=>ihb t ht (hb t ht)) (by omega) (by omega)]
  have e1:wi (0+(nAsg s.body:Int)+0)=nAsg s.body:=by rw [wi_id (by omega) (by omega)]; omega
  rw [e1,wi_id (by omega) (by omega)]
 | test hk hb he =>
  rw [if_neg (by omega),if_pos hk] at h1
  rw [if_neg (show ¬ s.kind=1 by omega),if_pos hk,if_neg (show ¬ s.kind=3 by omega),asgL_n s.body 0 (fun t ht=>ihb t ht (hb t ht)) (by omega) (by omega),asgL_n s.els 0 (fun t ht=>ihe t ht (he t ht)) (by omega) (by omega)]
  have e1:wi (0+(nAsg s.body:Int)+(0+(nAsg s.els:Int)))=nAsg s.body+nAsg s.els:=by rw [wi_id (by omega) (by omega)]; omega
  rw [e1,wi_id (by omega) (by omega)]
  omega
 | asg hk hb he =>
  rw [if_neg (by omega),if_neg (by omega)] at h1
  rw [if_neg (show ¬ s.kind=1 by omega),if_neg (show ¬ s.kind=2 by omega),if_pos hk,hb,he,asgL]
  have e1:wi ((0:Int)+0)=0:=by decide
  have e2:wi (n+1)=n+1:=wi_id (by omega) (by omega)
  rw [e1,e2,wi_id (by omega) (by omega)]
  omega
theorem asgL_is {l:List Stm} (h:∀ s∈l,OkAs s) (hn:nAsg l≤1000000000):asgL 0 l=nAsg l:=by
 rw [asgL_n l 0 (fun s hs=>asgS_n s (h s hs)) (by omega) (by omega)]; omega
theorem nAsg_mem {s:Stm}:∀ {l:List Stm},s∈l→nAsgS s≤nAsg l
 | t::l,h=>by
  rw [nAsg]
  rcases List.mem_cons.1 h with rfl | h
  ·omega
  ·have:=nAsg_mem h; omega
theorem chk_okas {p:Prg}:∀ (s:Stm) (nm:List ByteArray) (st:Int),(chkStm p s nm st).1=true→OkAs s:=by
 refine Stm.ind fun s ihb ihe nm st h=>?_
 by_cases h1:s.kind=1
 ·rw [chkStm_for h1] at h
  split at h<;>try (cases h; done)
  rename_i hc
  obtain ⟨hd,hl⟩:=chkBody_dl h
  simp only [cFor,Bool.and_eq_true,decide_eq_true_eq] at hc
  refine .loop h1 (List.eq_nil_of_length_eq_zero (by omega)) fun t ht=>?_
  obtain ⟨st',h'⟩:=chkList_mem hl t ht
  exact ihb t ht _ st' h'
 ·by_cases h2:s.kind=2
  ·rw [chkStm_if h2] at h
   split at h<;>try (cases h; done)
   split at h<;>try (cases h; done)
   rename_i hb
   obtain ⟨_,hl⟩:=chkBody_dl hb
   obtain ⟨_,hl2⟩:=chkBody_dl h
   refine .test h2 (fun t ht=>?_) fun t ht=>?_
   ·obtain ⟨st',h'⟩:=chkList_mem hl t ht
    exact ihb t ht nm st' h'
   ·obtain ⟨st',h'⟩:=chkList_mem hl2 t ht
    exact ihe t ht nm st' h'
  ·by_cases h3:s.kind=3
   ·rw [chkStm_asg h3] at h
    simp only [cAsg,Bool.and_eq_true,decide_eq_true_eq] at h
    exact .asg h3 (List.eq_nil_of_length_eq_zero (by omega)) (List.eq_nil_of_length_eq_zero (by omega))
   ·rw [chkStm_bad h1 h2 h3] at h; cases h
end Wp
end AM
end Go.Proofs.Ytimfbnojmdnlnaa
