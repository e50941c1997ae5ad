/- The reference's Insts; The law RunInsts, on trees. -/
import Derived.Test.YtimfbnojmdnlnaaGreatKM48
import Derived.Test.YtimfbnojmdnlnaaGreatKM36
import Derived.Test.YtimfbnojmdnlnaaGreatKM47
import Derived.Test.YtimfbnojmdnlnaaGreatKM34
import Derived.Test.YtimfbnojmdnlnaaGreatKWpF
set_option linter.all false
set_option maxRecDepth 100000
section
namespace Go.Proofs.YtimfbnojmdnlnaaGreat
namespace AM
namespace Wp
namespace Y
def errOf:Rs→Int
 | .ok _ _=>0
 | .pan e=>e
def cOfD (p:Prg) (ps:List Int):Rc:=⟨p,shapesOf ps p.arrays,p.arrays.isEmpty, .slice .nil [],true,1⟩
def totD (p:Prg) (ps:List Int):Tr:=bodyT (shapesOf ps p.arrays) p.params.length true p.body ps 0 0 []
def DoneD (p:Prg) (ps:List Int) (F:Fr) (B:List (List V)):Prop :=
 if askErr p ps=0 then F 8=.ptr 0 1 0∧F 9=.int .i64 (errOf (totD p ps).r)∧EndT (cOfD p ps) (totD p ps) [] [] B
 else F 8=.nilp∧F 9=.int .i64 (askErr p ps)
theorem reloc_nk {b:Bool} {l:List (List V)}:reloc 0 0 1 (.slice (nk b) l)=.slice (nk b) l:=by cases b<;>rfl
theorem reloc_grown {e:Nat} {l:List (List V)}:reloc 0 0 1 (grown e l)=grown e l:=by cases l<;>rfl
theorem rcells_rel {c:Rc} {st e:Int} {ins:List Ins} {evs:List Ev}:relocL 0 0 1 (rcells c st e ins evs)=rcells ⟨c.p,c.sh,c.b,reloc 0 0 1 c.mv,c.dry,c.mi⟩ st e ins evs:=by
 simp only [rcells,rcw,relocL,reloc_nk,reloc_grown]
 rfl
def RInstsV (p:Prg) (ps:List Int) (v:V):Prop :=
 if askErr p ps=0 then
  (match (totD p ps).r with
  | .ok _ _=>if (totD p ps).i.length≤4096 then v=.tup [.slice (nk (totD p ps).i.isEmpty) ((totD p ps).i.map encIns), .int .i64 0] else v=.tup [.slice .nil [], .int .i64 3]
  | .pan e=>v=.tup [.slice .nil [], .int .i64 e])
 else v=.tup [.slice .nil [], .int .i64 (askErr p ps)]
end Y
end Wp
end AM
end Go.Proofs.YtimfbnojmdnlnaaGreat
end
section
namespace Go.Proofs.YtimfbnojmdnlnaaGreat
namespace AM
namespace Wp
namespace Y
theorem sameinst_ok {s:Int} {b1 b2:Bool} {x:List Int} (hx:x.length≤1000000000):Sp theEnv 40 [.agg [.int .i64 s, .slice (nk b1) (x.map encI)], .agg [.int .i64 s, .slice (nk b2) (x.map encI)]] (.bool true):=by
 have ho:=order_ok (b1:=b1) (b2:=b2) hx (Nat.le_refl x.length)
 rw [ordI_same] at ho
 refine Sp.fn rfl rfl rfl sx sy fun S=>?_; simp only [a40,c40,go_sem,simprocAttr]
 rw [ho.call]
 simp only [go_sem,simprocAttr]
end Y
end Wp
end AM
end Go.Proofs.YtimfbnojmdnlnaaGreat
end
