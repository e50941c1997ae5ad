/- The reference's Fits. -/
import Derived.Test.YtimfbnojmdnlnaaGreatKM47
import Derived.Test.YtimfbnojmdnlnaaGreatKM39
set_option linter.all false
set_option maxRecDepth 100000
namespace Go.Proofs.YtimfbnojmdnlnaaGreat
namespace AM
namespace Wp
def rrow (r : List Int) : Bool := r.all fun n => decide (n = wrapV n)
def rfitP (q : Mem × Int) : Bool := decide ((q.1.row.length : Int) = q.2) && rrow q.1.row
def rfitV (mem : List Mem) (cells : List Int) : Bool := decide (mem.length = cells.length) && (mem.zip cells).all rfitP
theorem rfits_ok {b bs : Bool} {mem : List Mem} {cells : List Int} (hl : mem.length ≤ LIM) (hr : ∀ m ∈ mem,m.row.length ≤ LIM) :
  Sp theEnv 100 [.slice (nk b) (mem.map encMem), .slice (nk bs) (cells.map encI)] (.bool (rfitV mem cells)) := by
 refine Sp.fn rfl rfl rfl sx sy fun S => ?_; simp only [a100,c100,go_sem,simprocAttr]
 rw [Run_if]
 simp only [go_sem,simprocAttr]
 by_cases hab : mem.length = cells.length
 ·simp only [hab,go_sem,simprocAttr,rfitV,decide_true,Bool.true_and]
  have hz : (mem.zip cells).length = mem.length := by rw [List.length_zip]; omega
  refine Run_all (mem.zip cells) rfitP (fun S' => S' = ⟨[],none⟩ :: S) [1,14] (by rw [hz]; exact Nat.le_trans hl (by decide)) sx (by simp only [go_sem,simprocAttr,hz,hab]) rfl rfl rfl sx rfl ?_ ?_
  ·rintro k F _ q hq hqm rfl hi hkept hno
   simp only [go_sem,simprocAttr] at hkept
   obtain ⟨h1,h2⟩ := List.getElem?_zip_eq_some.1 hq
   have hl1 := hr q.1 (List.mem_of_getElem? h1)
   simp only [go_sem,simprocAttr,hkept,hi,iaO_map h1,iaO_map h2]
   rw [Run_if]
   simp only [go_sem,simprocAttr]
   split
   ·rename_i hne
    intro _
    exact (hno (by simp only [rfitP,hne,Bool.false_and])).symm
   ·rename_i he
    refine Run_all q.1.row (fun n => decide (n = wrapV n)) (fun S' => S' = ⟨[],none⟩ :: S) [1,14,16,28] (Nat.le_trans hl1 (by decide)) sx sx rfl rfl rfl (by simp only [go_sem,simprocAttr,hkept,hi]) rfl ?_ ?_
    ·rintro k2 F2 _ n hn hnm rfl hi2 hkept2 hno2
     simp only [go_sem,simprocAttr,hkept,hi] at hkept2
     simp only [go_sem,simprocAttr,hkept2,hi2,iaO_map hn,(rwrap_ok _).call,Run_if]
     split
     ·rename_i h9
      intro _
      exact (hno (by simp only [rfitP,rrow,hno2 h9,Bool.and_false])).symm
     ·rename_i h9
      simpa using h9
    ·rintro F2 _ hall2 rfl hkept2
     simp only [go_sem,simprocAttr,hkept,hi] at hkept2
     simp only [go_sem,simprocAttr,hkept2]
     have he' : (q.1.row.length : Int) = q.2 := by simpa using he
     simp only [rfitP,rrow,hall2,he',decide_true,Bool.and_self]
  ·rintro F _ hall rfl hkept
   simp only [go_sem,simprocAttr] at hkept
   simp only [go_sem,simprocAttr,hall]
 ·have hab' : ¬ ((mem.length : Int) = (cells.length : Int)) := by omega
  simp [hab,hab',rfitV,go_sem,simprocAttr]
theorem wrapV_in (n : Int) : decide (n = wrapV n) = !outI n := by
 rw [← wrapV_eq]
 unfold outI
 rw [IntKind.wrap_i32,IntKind.wrap_i64]
 by_cases h : n < -2147483648 ∨ 2147483648 ≤ n
 ·have h1 : ¬ n = (n % 4294967296 + if n % 4294967296 < 2147483648 then 0 else -4294967296) := by split <;> omega
  rcases h with h | h <;> simp [h] <;> omega
 ·have h1 : ¬ n < -2147483648 := by omega
  have h2 : ¬ 2147483648 ≤ n := by omega
  simp [h1,h2]; omega
theorem rrow_is (r : List Int) : rrow r = !decide (0 ≤ idxF outI 0 r) := by
 rw [idxF_any,List.not_any_eq_all_not]
 exact all_congr fun n _ => wrapV_in n
theorem fit_same (mem : List Mem) (sh : List Shape) : rfitV mem (sh.map (·.cells)) = fitV mem sh := by
 unfold rfitV fitV
 rw [List.length_map,List.zip_map_right,List.all_map]
 congr 1
 refine all_congr fun q _ => ?_
 simp only [Function.comp,rfitP,fitP,rrow_is,Prod.map,id]
end Wp
end AM
end Go.Proofs.YtimfbnojmdnlnaaGreat
