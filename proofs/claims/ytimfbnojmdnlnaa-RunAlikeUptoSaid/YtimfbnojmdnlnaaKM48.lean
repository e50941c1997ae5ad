/- law12.marked: other marks; Other marks: what stays as it was (plain); Fresh on both sides, and SameMemory; The guard of the Run laws, with a memory; a block with one call that turns a box. -/
import Derived.Test.YtimfbnojmdnlnaaKM36
import Derived.Test.YtimfbnojmdnlnaaKM35
import Derived.Test.YtimfbnojmdnlnaaKM33
import Derived.Test.YtimfbnojmdnlnaaKSbMb
set_option linter.all false
set_option maxRecDepth 100000
section
namespace Go.Proofs.Ytimfbnojmdnlnaa
namespace AM
namespace Wp
def encU8 (x:Int):List V:=[.int .u8 x]
def markV (ms:List Int) (m:Int) (n:Nat):Int:=match ms[n % ms.length]? with | some y=>y.tmod 3 | none=>m
mutual
def mkStm (ms:List Int):Stm→Nat→Stm×Nat
 | ⟨kind,name,low,high,step,mark,test,target,value,bn,body,en,els⟩,n =>
  (⟨kind,name,low,high,step,if kind=1 then markV ms mark n else mark,test,target,value,(mkStms ms body (if kind=1 then n+1 else n)).1.isEmpty,(mkStms ms body (if kind=1 then n+1 else n)).1,
   (mkStms ms els (mkStms ms body (if kind=1 then n+1 else n)).2).1.isEmpty,(mkStms ms els (mkStms ms body (if kind=1 then n+1 else n)).2).1⟩,(mkStms ms els (mkStms ms body (if kind=1 then n+1 else n)).2).2)
def mkStms (ms:List Int):List Stm→Nat→List Stm×Nat
 | [],n=>([],n)
 | x::xs,n=>((mkStm ms x n).1::(mkStms ms xs (mkStm ms x n).2).1,(mkStms ms xs (mkStm ms x n).2).2)
end
end Wp
end AM
end Go.Proofs.Ytimfbnojmdnlnaa
end
section
namespace Go.Proofs.Ytimfbnojmdnlnaa
namespace AM
namespace Wp
section
variable {ms:List Int}
def mkPrg (ms:List Int) (p:Prg):Prg:=⟨p.pn,p.params,p.an,p.arrays,(mkStms ms p.body 0).1.isEmpty,(mkStms ms p.body 0).1⟩
end
end Wp
end AM
end Go.Proofs.Ytimfbnojmdnlnaa
end
section
end
section
namespace Go.Proofs.Ytimfbnojmdnlnaa
namespace AM
namespace Wp
def memLen:List Mem→Nat
 | []=>0
 | m::l=>m.row.length+memLen l
theorem memLen_snoc {x:Mem}:∀ {l:List Mem},memLen (l++[x])=memLen l+x.row.length
 | []=>by simp [memLen]
 | y::l=>by simp only [List.cons_append,memLen,memLen_snoc (l:=l)]; omega
theorem memLen_take {l:List Mem} {k:Nat}:memLen (l.take k)≤memLen l:=by
 induction l generalizing k with
 | nil=>simp
 | cons y l ih =>
  cases k with
  | zero=>simp [memLen]
  | succ k=>simp only [List.take_succ_cons,memLen]; have:=ih (k:=k); omega
theorem memLen_mem {l:List Mem} {x:Mem} (h:x∈l):x.row.length≤memLen l:=by
 induction l with
 | nil=>cases h
 | cons y l ih =>
  simp only [memLen]
  rcases List.mem_cons.1 h with rfl | h
  ·omega
  ·have:=ih h; omega
theorem few12_ok {p:Prg} (hp:OkPrg p) (b bm:Bool) (ps:List Int) (mem:List Mem) (hl:ps.length+mem.length+memLen mem≤1000000000000):Sp theEnv 21 [.agg (encPrg p), .slice (nk b) (ps.map encI), .slice (nk bm) (mem.map encMem)] (.bool (few p 1000&&decide ((ps.length+mem.length+memLen mem:Nat)≤10000))):=by
 refine Sp.fn rfl rfl rfl sx sy fun S=>?_; simp only [a21,c21,go_sem,simprocAttr]
 refine Run_range mem.length [3,15] [7] (fun k vs S'=>vs=[.int .i64 ((ps.length+mem.length+memLen (mem.take k):Nat):Int)]∧∃ B,S'=⟨encPrg p::B,none⟩::S) (Nat.le_trans (show mem.length≤1000000000000 by omega) (by decide)) sx sx rfl rfl rfl rfl sx ⟨by simp only [go_sem,simprocAttr,List.take_zero,memLen]; rw [wrap64 (by omega) (by omega)]; omega,_,rfl⟩ ?_ ?_
 ·rintro k F _ hk ⟨hv,B,rfl⟩ hi hkept
  simp only [go_sem,simprocAttr] at hkept hv
  obtain ⟨x,hx⟩:∃ y,mem[k]?=some y:=⟨mem[k],List.getElem?_eq_getElem hk⟩
  have h1:memLen (mem.take (k+1))≤memLen mem:=memLen_take
  rw [take_snoc' hx,memLen_snoc] at h1
  have hw:IntKind.i64.wrap (((ps.length+mem.length+memLen (mem.take k):Nat):Int)+(x.row.length:Int))=((ps.length+mem.length+(memLen (mem.take k)+x.row.length):Nat):Int):=by
   rw [wrap64 (by omega) (by omega)]; omega
  rw [take_snoc' hx,memLen_snoc]
  simp only [go_sem,simprocAttr,hkept,hi,hv,iaO_map hx,one_Mem,hw]
 ·rintro F _ ⟨hv,B,rfl⟩ hkept
  simp only [go_sem,simprocAttr] at hkept hv
  rw [List.take_length] at hv
  have hd:decide (((ps.length+mem.length+memLen mem:Nat):Int)≤10000)=decide ((ps.length+mem.length+memLen mem:Nat)≤10000):=by
   congr 1; exact propext (by omega)
  simp only [go_sem,simprocAttr,hkept,hv]
  rw [(few_ok hp 1000).call]
  simp only [go_sem,simprocAttr,hv,hd]
section
variable {E:Env} {F F1 F3:Fr} {S S':St} {Q:Ex→Fr→St→Prop} {os pre post:List AOper} {bs:List Blk} {d:Option Nat}
theorem EvbQ.fre {f:Nat} {xs:List Opd} {A:List V} {v:V} {l b:Nat} (ht:(os.takeWhile fun o=>!isCall o)=pre) (hd:(os.dropWhile fun o=>!isCall o)=⟨d, .call f xs,none⟩::post) (h1:freeL (fun _ _ _=>none) S pre F=some F1) (hA:(xs.map fun x=>strip (evO F1 x))=A)
  (hp:firstPtr A=some (l,b)) (hc:CallIs E (.fn f) A S (.ret v) S') (h2:post.all (fun o=>!isCall o)=true) (h3:tames A=true) (h4:low 0 v=true) (h5:ownFree S=true) (h6:eqS (setBox S l b dead) (setBox S' l b dead)=true)
  (h7:freeL (cEv f A v) (setBox S l b dead) os F=some F3) (k:EvbQ E bs (settle os F3 S').1 (settle os F3 S').2 Q):EvbQ E (.fre os::bs) F S Q:=by
 obtain ⟨K,hK⟩:=hc
 obtain ⟨r,⟨K2,h8⟩,h9⟩:=k
 refine ⟨r,⟨max K K2,fun j hj=>?_⟩,h9⟩
 have hf:freeC (callN E j) os F S=some (F3,S'):=by
  unfold freeC
  rw [hd,ht]
  simp only [h1,Option.bind_some,hA,hp,hK j (by omega),h2,h3,h4,h5,h6,h7,and_self,if_true,Option.map_some]
 simp only [blks,hf]
 exact h8 j (by omega)
end
end Wp
end AM
end Go.Proofs.Ytimfbnojmdnlnaa
end
