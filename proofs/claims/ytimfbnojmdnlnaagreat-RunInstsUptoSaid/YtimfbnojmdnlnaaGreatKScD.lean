/- headlandref02.Order. -/
import Derived.Test.YtimfbnojmdnlnaaGreatKSbL
set_option linter.all false
set_option maxRecDepth 100000
namespace Go.Proofs.YtimfbnojmdnlnaaGreat
namespace AM
namespace Wp
def ordI : List Int → List Int → Int
 | x :: a,y :: b => if x < y then -1 else if y < x then 1 else ordI a b
 | _,_ => 0
theorem ordI_at : ∀ {a b : List Int} {k : Nat} {x y : Int},a.take k = b.take k → a[k]? = some x → b[k]? = some y → ordI a b = if x < y then -1 else if y < x then 1 else ordI (a.drop (k + 1)) (b.drop (k + 1))
 | u :: a,v :: b,0,x,y,_,hx,hy => by
  simp at hx hy; subst hx; subst hy; simp [ordI]
 | u :: a,v :: b,k + 1,x,y,h,hx,hy => by
  simp only [List.take_succ_cons,List.cons.injEq] at h
  obtain ⟨rfl,h⟩ := h
  simp only [List.getElem?_cons_succ] at hx hy
  have := ordI_at h hx hy
  simp only [ordI,Int.lt_irrefl,if_false,List.drop_succ_cons,this]
 | [],_,k,_,_,_,hx,_ => by simp at hx
 | _ :: _,[],k,_,_,_,_,hy => by simp at hy
theorem ordI_zero : ∀ {a b : List Int},a = b.take a.length → ordI a b = 0
 | [],b,_ => by cases b <;> rfl
 | x :: a,[],h => by simp at h
 | x :: a,y :: b,h => by
  simp only [List.length_cons,List.take_succ_cons,List.cons.injEq] at h
  obtain ⟨rfl,h⟩ := h
  simp only [ordI,Int.lt_irrefl,if_false,ordI_zero h]
theorem order_ok {b1 b2 : Bool} {a b : List Int} (hl : a.length ≤ 1000000000) (hab : a.length ≤ b.length) : Sp theEnv 42 [.slice (nk b1) (a.map encI), .slice (nk b2) (b.map encI)] (.int .i64 (ordI a b)) := by
 refine Sp.fn rfl rfl rfl sx sy fun S => ?_; simp only [a42,c42,go_sem,simprocAttr]
 refine Run_range a.length [0,1] [] (fun k _ S' => a.take k = b.take k ∧ ∃ B,S' = ⟨B,none⟩ :: S) (Nat.le_trans hl (by decide)) sx sx rfl rfl rfl rfl sx ⟨rfl,_,rfl⟩ ?_ ?_
 ·rintro k F _ hk ⟨hB,B,rfl⟩ hi hkept
  simp only [go_sem,simprocAttr] at hkept
  obtain ⟨x,hx⟩ : ∃ x,a[k]? = some x := ⟨a[k],List.getElem?_eq_getElem hk⟩
  obtain ⟨y,hy⟩ : ∃ y,b[k]? = some y := ⟨b[k]'(by omega),List.getElem?_eq_getElem (by omega)⟩
  have ho := ordI_at hB hx hy
  simp only [go_sem,simprocAttr,hkept,hi,iaO_map hx,iaO_map hy,Run_if]
  split
  ·rename_i h1
   rw [ho,if_pos h1]
  ·rename_i h1
   split
   ·rename_i h2
    rw [ho,if_neg h1,if_pos h2]
   ·rename_i h2
    have hxy : x = y := by omega
    subst hxy
    rw [take_snoc' hx,take_snoc' hy,hB]
 ·rintro F _ ⟨hB,B,rfl⟩ hkept
  rw [List.take_length] at hB
  simp only [go_sem,simprocAttr,ordI_zero hB]
end Wp
end AM
end Go.Proofs.YtimfbnojmdnlnaaGreat
