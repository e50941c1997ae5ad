/- run.Run; An execution ends with no other error than these two; An execution keeps the shape of the memory. -/
import Derived.Test.YtimfbnojmdnlnaaGreatKM35
import Derived.Test.YtimfbnojmdnlnaaGreatKM19
set_option linter.all false
set_option maxRecDepth 100000
section
namespace Go.Proofs.YtimfbnojmdnlnaaGreat
namespace AM
namespace Wp
section
variable {E:Env} {ks:List KI} {F:Fr} {S R:St} {Q:Ex→Fr→St→Prop} {bs:List Blk} {d:Option Nat}
end
def RunV (p:Prg) (ps:List Int) (mem:List Mem) (v:V):Prop :=
 if askErr p ps=0 then
  (if fitV mem (shapesOf ps p.arrays)=true then
   (match bodyV (shapesOf ps p.arrays) p.body ps 0 (mem.map (·.row)) with
   | .ok st rows=>∃ (b:Bool) (ms:List Mem),ms.map (·.row)=rows∧v=.tup [.slice (nk b) (ms.map encMem), .int .i64 st, .int .i64 0]
   | .pan e=>v=.tup [.slice .nil [], .int .i64 0, .int .i64 e])
  else v=.tup [.slice .nil [], .int .i64 0, .int .i64 1])
 else v=.tup [.slice .nil [], .int .i64 0, .int .i64 (askErr p ps)]
theorem one_level {S:St} (hl:S.length=1) (hc:calmS S=true):∃ B,S=[⟨B,none⟩]:=by
 match S,hl with
 | [⟨B,lp⟩],_ =>
  simp only [calmS,List.all_cons,List.all_nil,Bool.and_eq_true,Bool.and_true] at hc
  cases lp with
  | none=>exact ⟨B,rfl⟩
  | some l=>cases hc.1
def ErrOk:Rs→Prop
 | .ok _ _=>True
 | .pan e=>e=3∨e=6
end Wp
end AM
end Go.Proofs.YtimfbnojmdnlnaaGreat
end
section
namespace Go.Proofs.YtimfbnojmdnlnaaGreat
namespace AM
namespace Wp
theorem err_step (st:Int) (rows:List (List Int)):ErrOk (stepV st rows):=by
 unfold stepV; split
 ·exact .inl rfl
 ·trivial
end Wp
end AM
end Go.Proofs.YtimfbnojmdnlnaaGreat
end
section
namespace Go.Proofs.YtimfbnojmdnlnaaGreat
namespace AM
namespace Wp
def LenOk (ls:List Nat):Rs→Prop
 | .ok _ rows=>rows.map List.length=ls
 | .pan _=>True
end Wp
end AM
end Go.Proofs.YtimfbnojmdnlnaaGreat
end
