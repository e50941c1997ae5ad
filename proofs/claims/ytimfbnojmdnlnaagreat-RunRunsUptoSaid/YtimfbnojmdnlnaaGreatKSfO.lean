/- run.fitting. -/
import Derived.Test.YtimfbnojmdnlnaaGreatKM34
import Derived.Test.YtimfbnojmdnlnaaGreatKSeS
set_option linter.all false
set_option maxRecDepth 100000
namespace Go.Proofs.YtimfbnojmdnlnaaGreat
namespace AM
namespace Wp
def outI (n : Int) : Bool := decide (n < -2147483648) || decide (2147483648 ≤ n)
theorem out_ok (n : Int) : Sp theEnv 117 [.int .i64 n] (.bool (outI n)) := by
 refine Sp.fn rfl rfl rfl sx sy fun S => ?_; simp only [a117,c117,go_sem,simprocAttr]
 rfl
theorem idxi_ok {k : Bool} {r : List Int} (hl : r.length ≤ LIM) : Sp theEnv 145 [.slice (nk k) (r.map encI), .func (.func 117) []] (.int .i64 (idxF outI 0 r)) := by
 refine Sp.fn rfl rfl rfl sx sy fun S => ?_; simp only [a145,c145,go_sem,simprocAttr]
 refine Run_range r.length [0,1] [] (fun k vs S' => idxF outI k (r.drop k) = idxF outI 0 r ∧ S' = ⟨[],none⟩ :: S) (Nat.le_trans hl (by decide)) sx sx rfl rfl rfl rfl sx ⟨rfl,rfl⟩ ?_ ?_
 ·rintro k F _ hk ⟨hv,rfl⟩ hi hkept
  simp only [go_sem,simprocAttr] at hkept
  obtain ⟨y,hy⟩ : ∃ y,r[k]? = some y := ⟨r[k],List.getElem?_eq_getElem hk⟩
  rw [drop_at hy,idxF] at hv
  simp only [go_sem,simprocAttr,hkept,hi,iaO_map hy]
  rw [(out_ok y).callv0 rfl]
  simp only [go_sem,simprocAttr]
  rw [Run_if]
  simp only [go_sem,simprocAttr]
  split
  ·rename_i h
   rw [if_pos h] at hv
   simp only [go_sem,simprocAttr,hkept,hi,hv]
  ·rename_i h
   rw [if_neg h] at hv
   exact hv
 ·rintro F _ ⟨hv,rfl⟩ hkept
  simp only [go_sem,simprocAttr] at hkept
  rw [List.drop_length,idxF] at hv
  simp only [go_sem,simprocAttr,hkept, ← hv]
theorem coni_ok {k : Bool} {r : List Int} (hl : r.length ≤ LIM) : Sp theEnv 116 [.slice (nk k) (r.map encI), .func (.func 117) []] (.bool (decide (0 ≤ idxF outI 0 r))) := by
 refine Sp.fn rfl rfl rfl sx sy fun S => ?_; simp only [a116,c116,go_sem,simprocAttr]
 simp only [(idxi_ok hl).call,go_sem,simprocAttr]
def fitP (q : Mem × Shape) : Bool := decide ((q.1.row.length : Int) = q.2.cells) && !decide (0 ≤ idxF outI 0 q.1.row)
def fitV (mem : List Mem) (sh : List Shape) : Bool := decide (mem.length = sh.length) && (mem.zip sh).all fitP
theorem fitting_ok {b bs : Bool} {mem : List Mem} {sh : List Shape} (hl : mem.length ≤ LIM) (hr : ∀ m ∈ mem,m.row.length ≤ LIM) :
  Sp theEnv 95 [.slice (nk b) (mem.map encMem), .slice (nk bs) (sh.map encShape)] (.bool (fitV mem sh)) := by
 refine Sp.fn rfl rfl rfl sx sy fun S => ?_; simp only [a95,c95,go_sem,simprocAttr]
 rw [Run_if]
 simp only [go_sem,simprocAttr]
 by_cases hab : mem.length = sh.length
 ·simp only [hab,go_sem,simprocAttr,fitV,decide_true,Bool.true_and]
  have hz : (mem.zip sh).length = mem.length := by rw [List.length_zip]; omega
  refine Run_all (mem.zip sh) fitP (fun S' => S' = ⟨[],none⟩ :: S) [1,12] (by rw [hz]; exact Nat.le_trans hl (by decide)) sx (by simp only [go_sem,simprocAttr,hz,hab]) rfl rfl rfl sx rfl ?_ ?_
  ·rintro k F _ q hq hqm rfl hi hkept hno
   simp only [go_sem,simprocAttr] at hkept
   obtain ⟨h1,h2⟩ := List.getElem?_zip_eq_some.1 hq
   have hl1 := hr q.1 (List.mem_of_getElem? h1)
   simp only [go_sem,simprocAttr,hkept,hi,iaO_map h1,iaO_map h2,(coni_ok hl1).callG,Run_if]
   simp only [fitP] at hno ⊢
   grind
  ·rintro F _ hall rfl hkept
   simp only [go_sem,simprocAttr] at hkept
   simp only [go_sem,simprocAttr,hall]
 ·have hab' : ¬ ((mem.length : Int) = (sh.length : Int)) := by omega
  simp [hab,hab',fitV,go_sem,simprocAttr]
theorem fitV_len {mem : List Mem} {sh : List Shape} (h : fitV mem sh = true) : mem.map (fun m => (m.row.length : Int)) = sh.map (·.cells) := by
 simp only [fitV,Bool.and_eq_true,decide_eq_true_eq] at h
 apply List.ext_getElem?
 intro j
 rw [List.getElem?_map,List.getElem?_map]
 cases hm : mem[j]? with
 | none =>
  have : sh[j]? = none := by rw [List.getElem?_eq_none_iff] at hm ⊢; omega
  rw [this]; rfl
 | some m =>
  have hj := (List.getElem?_eq_some_iff.1 hm).1
  have hs : sh[j]? = some (sh[j]'(by omega)) := List.getElem?_eq_getElem (by omega)
  rw [hs]
  have hz : (mem.zip sh)[j]? = some (m,sh[j]'(by omega)) := by rw [List.getElem?_zip_eq_some]; exact ⟨hm,hs⟩
  have := List.all_eq_true.1 h.2 _ (List.mem_of_getElem? hz)
  simp only [fitP,Bool.and_eq_true,decide_eq_true_eq] at this
  simp [this.1]
end Wp
end AM
end Go.Proofs.YtimfbnojmdnlnaaGreat
