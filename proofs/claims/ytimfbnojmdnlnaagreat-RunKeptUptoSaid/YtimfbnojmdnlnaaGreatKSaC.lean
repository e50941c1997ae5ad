/- Trees that are equal but for the kind of their slices. -/
import Derived.Test.YtimfbnojmdnlnaaGreatKAmA
set_option linter.unusedVariables false
set_option linter.unusedSimpArgs false
namespace Go.Proofs.YtimfbnojmdnlnaaGreat
namespace AM
mutual
def eqv : V → V → Bool
 | .bool a, .bool b => a == b
 | .int _ a, .int _ b => a == b
 | .str a, .str b => a.toList == b.toList
 | .slice _ xs, .slice _ ys => eqvR xs ys
 | _, _ => false
def eqvL : List V → List V → Bool
 | [], [] => true
 | a :: as, b :: bs => eqv a b && eqvL as bs
 | _, _ => false
def eqvR : List (List V) → List (List V) → Bool
 | [], [] => true
 | a :: as, b :: bs => eqvL a b && eqvR as bs
 | _, _ => false
end
theorem eqvR_len : ∀ {xs ys : List (List V)}, xs.length ≠ ys.length → eqvR xs ys = false
 | [], [], h => absurd rfl h
 | [], _ :: _, _ => by simp [eqvR]
 | _ :: _, [], _ => by simp [eqvR]
 | a :: as, b :: bs, h => by simp only [eqvR]; rw [eqvR_len (by simpa using h)]; simp
theorem eqvR_at : ∀ {xs ys : List (List V)} {i : Nat} {x y : List V}, xs[i]? = some x → ys[i]? = some y → eqvL x y = false → eqvR xs ys = false
 | [], _, i, x, y, h, _, _ => by simp at h
 | _ :: _, [], i, x, y, _, h, _ => by simp at h
 | a :: as, b :: bs, 0, x, y, h1, h2, h => by
  simp only [List.getElem?_cons_zero, Option.some.injEq] at h1 h2
  subst h1 h2; simp [eqvR, h]
 | a :: as, b :: bs, i + 1, x, y, h1, h2, h => by
  simp only [eqvR]; rw [eqvR_at (xs := as) (ys := bs) (i := i) (by simpa using h1) (by simpa using h2) h]; simp
theorem eqvR_all : ∀ {xs ys : List (List V)}, xs.length = ys.length → (∀ (i : Nat) (x y : List V), xs[i]? = some x → ys[i]? = some y → eqvL x y = true) → eqvR xs ys = true
 | [], [], _, _ => by simp [eqvR]
 | [], _ :: _, h, _ => by simp at h
 | _ :: _, [], h, _ => by simp at h
 | a :: as, b :: bs, hl, h => by
  simp only [eqvR, Bool.and_eq_true]
  exact ⟨h 0 a b rfl rfl, eqvR_all (by simpa using hl) fun i x y hx hy => h (i + 1) x y (by simpa using hx) (by simpa using hy)⟩
mutual
theorem eqv_comm : ∀ a b, eqv a b = eqv b a
 | .bool a, w => by cases w <;> simp [eqv, Bool.beq_comm]
 | .int _ a, w => by cases w <;> simp [eqv, Bool.beq_comm]
 | .str a, w => by cases w <;> simp [eqv]; exact Bool.beq_comm
 | .slice _ xs, w => by cases w <;> simp [eqv]; exact eqvR_comm xs _
 | .undef, w => by cases w <;> simp [eqv]
 | .ptr _ _ _, w => by cases w <;> simp [eqv]
 | .nilp, w => by cases w <;> simp [eqv]
 | .look _, w => by cases w <;> simp [eqv]
 | .func _ _, w => by cases w <;> simp [eqv]
 | .nilf, w => by cases w <;> simp [eqv]
 | .ifc _ _, w => by cases w <;> simp [eqv]
 | .nili, w => by cases w <;> simp [eqv]
 | .agg _, w => by cases w <;> simp [eqv]
 | .tup _, w => by cases w <;> simp [eqv]
 | .fresh _, w => by cases w <;> simp [eqv]
 | .mir _ _ _ _ _, w => by cases w <;> simp [eqv]
 | .bsl _ _ _ _ _ _, w => by cases w <;> simp [eqv]
theorem eqvL_comm : ∀ as bs, eqvL as bs = eqvL bs as
 | [], [] => rfl
 | [], _ :: _ => by simp [eqvL]
 | _ :: _, [] => by simp [eqvL]
 | a :: as, b :: bs => by simp only [eqvL]; rw [eqv_comm a b, eqvL_comm as bs]
theorem eqvR_comm : ∀ as bs, eqvR as bs = eqvR bs as
 | [], [] => rfl
 | [], _ :: _ => by simp [eqvR]
 | _ :: _, [] => by simp [eqvR]
 | a :: as, b :: bs => by simp only [eqvR]; rw [eqvL_comm a b, eqvR_comm as bs]
end
end AM
end Go.Proofs.YtimfbnojmdnlnaaGreat
