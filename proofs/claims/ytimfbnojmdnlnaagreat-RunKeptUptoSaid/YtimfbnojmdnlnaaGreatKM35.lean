/- The guard of the Run laws, and the example of the chapter; Mod, both sides. -/
import Derived.Test.YtimfbnojmdnlnaaGreatKSbL
import Derived.Test.YtimfbnojmdnlnaaGreatKM29
set_option linter.unusedVariables false
set_option linter.unusedSimpArgs false
set_option maxRecDepth 100000
section
namespace Go.Proofs.YtimfbnojmdnlnaaGreat
open Nat renaming reduceEqDiff → Ra, reduceAdd → Rb, reduceLeDiff → Rc, reduceMul → Rd, reduceSub → Re, reduceLT → Rk
open Int renaming reduceLT → Rf, reduceLE → Rg, reduceEq → Rh, reduceAdd → Ri, reduceNeg → Rj
namespace AM
namespace Wp
structure Mem where
 n : Bool
 row : List Int
def encMem (x : Mem) : List V := [.slice (nk x.n) (x.row.map encI)]
theorem few12_nil {p : Prg} (hp : OkPrg p) (b : Bool) (ps : List Int) (hl : ps.length ≤ LIM) : Sp theEnv 26 [.agg (encPrg p), .slice (nk b) (ps.map encI), .slice .nil []] (.bool (few p 1000 && decide ((ps.length : Int) ≤ 10000))) := by
 have hl' : ps.length ≤ 9223372036854775807 := hl
 refine Sp.fn rfl rfl rfl (by simp only [go_sem, Ra, Rb, Rc, Rd, Re, Rf, Rg, Rh, Ri, Rj, reduceIte, reduceCtorEq, Rk]) (by simp only [go_sem, Ra, Rb, Rc, Rd, Re, Rf, Rg, Rh, Ri, Rj, reduceIte, reduceCtorEq, Rk, implies_true]) fun S => ?_; simp only [a26, c26, go_sem, Ra, Rb, Rc, Rd, Re, Rf, Rg, Rh, Ri, Rj, reduceIte, reduceCtorEq, Rk]
 refine Run_range 0 [3, 15] [7] (fun k vs S' => vs = [.int .i64 (ps.length : Int)] ∧ ∃ B, S' = ⟨encPrg p :: B, none⟩ :: S) (by decide) (by simp only [go_sem, Ra, Rb, Rc, Rd, Re, Rf, Rg, Rh, Ri, Rj, reduceIte, reduceCtorEq, Rk]) (by simp only [go_sem, Ra, Rb, Rc, Rd, Re, Rf, Rg, Rh, Ri, Rj, reduceIte, reduceCtorEq, Rk]) rfl rfl rfl rfl (by simp only [go_sem, Ra, Rb, Rc, Rd, Re, Rf, Rg, Rh, Ri, Rj, reduceIte, reduceCtorEq, Rk]) ⟨by simp only [go_sem, Ra, Rb, Rc, Rd, Re, Rf, Rg, Rh, Ri, Rj, reduceIte, reduceCtorEq, Rk]; rw [Int.add_zero]; exact wrap64 (by omega) (by omega), _, rfl⟩ ?_ ?_
 ·rintro k F _ hk
  omega
 ·rintro F _ ⟨hv, B, rfl⟩ hkept
  simp only [go_sem, Ra, Rb, Rc, Rd, Re, Rf, Rg, Rh, Ri, Rj, reduceIte, reduceCtorEq, Rk] at hkept hv
  simp only [go_sem, Ra, Rb, Rc, Rd, Re, Rf, Rg, Rh, Ri, Rj, reduceIte, reduceCtorEq, Rk, hkept, hv]
  rw [(few_ok hp 1000).call]
  simp only [go_sem, Ra, Rb, Rc, Rd, Re, Rf, Rg, Rh, Ri, Rj, reduceIte, reduceCtorEq, Rk, hv]
end Wp
end AM
end Go.Proofs.YtimfbnojmdnlnaaGreat
end
section
namespace Go.Proofs.YtimfbnojmdnlnaaGreat
open Nat renaming reduceEqDiff → Ra, reduceAdd → Rb, reduceLeDiff → Rc, reduceMul → Rd, reduceSub → Re, reduceLT → Rk
open Int renaming reduceLT → Rf, reduceLE → Rg, reduceEq → Rh, reduceAdd → Ri, reduceNeg → Rj
namespace AM
namespace Wp
def modI (x m : Int) : Int := if x.tmod m < 0 then IntKind.i64.wrap (x.tmod m + m) else x.tmod m
theorem brem {tk : Nat} {k : IntKind} {x m : Int} (h : m ≠ 0) : bin .rem tk (.int k x) (.int k m) = some (.int k (x.tmod m)) := by simp [bin, arith, h]
theorem mod_ok (x : Int) : Sp theEnv 67 [.int .i64 x, .int .i64 1000003] (.tup [.int .i64 (modI x 1000003), .int .i64 0]) := by
 have hb : ∀ tk, bin .rem tk (.int .i64 x) (.int .i64 1000003) = some (.int .i64 (x.tmod 1000003)) := fun tk => brem (by decide)
 refine Sp.fn rfl rfl rfl (by simp only [go_sem, Ra, Rb, Rc, Rd, Re, Rf, Rg, Rh, Ri, Rj, reduceIte, reduceCtorEq, Rk]) (by simp only [go_sem, Ra, Rb, Rc, Rd, Re, Rf, Rg, Rh, Ri, Rj, reduceIte, reduceCtorEq, Rk, implies_true]) fun S => ?_; simp only [a67, c67, go_sem, Ra, Rb, Rc, Rd, Re, Rf, Rg, Rh, Ri, Rj, reduceIte, reduceCtorEq, Rk]
 simp only [go_sem, Ra, Rb, Rc, Rd, Re, Rf, Rg, Rh, Ri, Rj, reduceIte, reduceCtorEq, Rk, hb]
 rw [Run_if]
 simp only [go_sem, Ra, Rb, Rc, Rd, Re, Rf, Rg, Rh, Ri, Rj, reduceIte, reduceCtorEq, Rk]
 split
 ·rename_i h
  have h' : x.tmod 1000003 < 0 := by simpa using h
  simp only [go_sem, Ra, Rb, Rc, Rd, Re, Rf, Rg, Rh, Ri, Rj, reduceIte, reduceCtorEq, Rk, modI, if_pos h']
 ·rename_i h
  have h' : ¬ x.tmod 1000003 < 0 := by simpa using h
  simp only [go_sem, Ra, Rb, Rc, Rd, Re, Rf, Rg, Rh, Ri, Rj, reduceIte, reduceCtorEq, Rk, modI, if_neg h']
end Wp
end AM
end Go.Proofs.YtimfbnojmdnlnaaGreat
end
