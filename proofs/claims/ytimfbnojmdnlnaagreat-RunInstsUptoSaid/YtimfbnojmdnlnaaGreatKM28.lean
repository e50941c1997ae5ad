/- The guard of the Run laws, and the example of the chapter; Mod, both sides. -/
import Derived.Test.YtimfbnojmdnlnaaGreatKSbL
import Derived.Test.YtimfbnojmdnlnaaGreatKM25
set_option linter.all false
set_option maxRecDepth 100000
section
namespace Go.Proofs.YtimfbnojmdnlnaaGreat
namespace AM
namespace Wp
structure Mem where
 n : Bool
 row : List Int
def encMem (x : Mem) : List V := [.slice (nk x.n) (x.row.map encI)]
theorem few12_nil {p : Prg} (hp : OkPrg p) (b : Bool) (ps : List Int) (hl : ps.length ≤ LIM) : Sp theEnv 26 [.agg (encPrg p), .slice (nk b) (ps.map encI), .slice .nil []] (.bool (few p 1000 && decide ((ps.length : Int) ≤ 10000))) := by
 have hl' : ps.length ≤ 9223372036854775807 := hl
 refine Sp.fn rfl rfl rfl sx sy fun S => ?_; simp only [a26,c26,go_sem,simprocAttr]
 refine Run_range 0 [3,15] [7] (fun k vs S' => vs = [.int .i64 (ps.length : Int)] ∧ ∃ B,S' = ⟨encPrg p :: B,none⟩ :: S) (by decide) sx sx rfl rfl rfl rfl sx ⟨by simp only [go_sem,simprocAttr]; rw [Int.add_zero]; exact wrap64 (by omega) (by omega),_,rfl⟩ ?_ ?_
 ·rintro k F _ hk
  omega
 ·rintro F _ ⟨hv,B,rfl⟩ hkept
  simp only [go_sem,simprocAttr] at hkept hv
  simp only [go_sem,simprocAttr,hkept,hv]
  rw [(few_ok hp 1000).call]
  simp only [go_sem,simprocAttr,hv]
end Wp
end AM
end Go.Proofs.YtimfbnojmdnlnaaGreat
end
section
namespace Go.Proofs.YtimfbnojmdnlnaaGreat
namespace AM
namespace Wp
def modI (x m : Int) : Int := if x.tmod m < 0 then IntKind.i64.wrap (x.tmod m + m) else x.tmod m
end Wp
end AM
end Go.Proofs.YtimfbnojmdnlnaaGreat
end
