/- The reference's Reads and Infos (as in SdB, by themselves). -/
import Derived.Test.YtimfbnojmdnlnaaKSgD
import Derived.Test.YtimfbnojmdnlnaaKM18
set_option linter.all false
set_option maxRecDepth 100000
namespace Go.Proofs.Ytimfbnojmdnlnaa
namespace AM
namespace Wp
namespace I
theorem wl_Stm (x:Stm):wtL (encStm x)=4+wtL (encBound x.low)+wtL (encBound x.high)+wtL (encPSet x.test)+wtL (encRef x.target)+wtL (encExp x.value)+(1+wtR (x.body.map encStm))+(1+wtR (x.els.map encStm)):=by
 cases x
 simp only [encStm,wtL_append,wtL,wt,encStms_map]; omega
structure Info where
 path:List Int
 nb:Bool
 names:List ByteArray
 s:Stm
 rd:List Ref
def encInfo (x:Info):List V:=V.slice .shut (x.path.map encI)::V.slice (nk x.nb) (x.names.map encS)::(encStm x.s++[V.slice (nk x.rd.isEmpty) (x.rd.map encRef)])
mutual
def rReads:Exp→List Ref
 | ⟨op,_,_,r,_,args⟩=>if op=2 then [r] else rReadss args
def rReadss:List Exp→List Ref
 | []=>[]
 | x::xs=>rReads x++rReadss xs
end
mutual
theorem rreads_wt:∀ x,(rReads x).length≤wtL (encExp x)
 | ⟨op,k,l,r,n,args⟩=>by
  have:=rreads_wts args
  simp only [rReads,encExp,wtL_append,wtL,wt]
  split
  ·simp; omega
  ·omega
theorem rreads_wts:∀ xs,(rReadss xs).length≤wtR (encExps xs)
 | []=>by simp [rReadss]
 | x::xs=>by
  have:=rreads_wt x
  have:=rreads_wts xs
  simp only [rReadss,List.length_append,encExps,wtR]
  omega
end
mutual
def infS (path:List Int) (nb:Bool) (names:List ByteArray) (i:Nat):Stm→List Info
 | s@⟨kind,name,_,_,_,_,_,_,value,_,body,_,els⟩ =>
  if kind=1 then infL (path++[(i:Int),0]) false (names++[name]) 0 body
  else if kind=2 then infL (path++[(i:Int),0]) nb names 0 body++infL (path++[(i:Int),1]) nb names 0 els
  else [⟨path++[(i:Int)],nb,names,s,rReads value⟩]
def infL (path:List Int) (nb:Bool) (names:List ByteArray) (i:Nat):List Stm→List Info
 | []=>[]
 | s::l=>infS path nb names i s++infL path nb names (i+1) l
end
theorem infS_eq (path:List Int) (nb:Bool) (names:List ByteArray) (i:Nat) (s:Stm):infS path nb names i s=if s.kind=1 then infL (path++[(i:Int),0]) false (names++[s.name]) 0 s.body
  else if s.kind=2 then infL (path++[(i:Int),0]) nb names 0 s.body++infL (path++[(i:Int),1]) nb names 0 s.els
  else [⟨path++[(i:Int)],nb,names,s,rReads s.value⟩]:=by
 cases s; rw [infS]
theorem infL_wt:∀ l:List Stm,(∀ s∈l, ∀ (path:List Int) (nb:Bool) (names:List ByteArray) (i:Nat),(infS path nb names i s).length≤wtL (encStm s))→∀ (path:List Int) (nb:Bool) (names:List ByteArray) (i:Nat),(infL path nb names i l).length≤wtR (l.map encStm)
 | [],_,path,nb,names,i=>by simp [infL]
 | s::l,h,path,nb,names,i=>by
  have h1:=h s (by simp) path nb names i
  have h2:=infL_wt l (fun y hy=>h y (List.mem_cons_of_mem _ hy)) path nb names (i+1)
  simp only [infL,List.length_append,List.map_cons,wtR]; omega
theorem infS_wt:∀ (s:Stm) (path:List Int) (nb:Bool) (names:List ByteArray) (i:Nat),(infS path nb names i s).length≤wtL (encStm s):=by
 refine Stm.ind fun x ihb ihe path nb names i=>?_
 have hb:=fun p b n=>infL_wt x.body ihb p b n 0
 have he:=fun p b n=>infL_wt x.els ihe p b n 0
 rw [infS_eq,wl_Stm]
 split
 ·have:=hb (path++[(i:Int),0]) false (names++[x.name]); omega
 ·split
  ·have h1:=hb (path++[(i:Int),0]) nb names
   have h2:=he (path++[(i:Int),1]) nb names
   rw [List.length_append]; omega
  ·simp; omega
theorem infL_len (l:List Stm) (path:List Int) (nb:Bool) (names:List ByteArray) (i:Nat):(infL path nb names i l).length≤wtR (l.map encStm):=infL_wt l (fun s _=>infS_wt s) path nb names i
end I
end Wp
end AM
end Go.Proofs.Ytimfbnojmdnlnaa
