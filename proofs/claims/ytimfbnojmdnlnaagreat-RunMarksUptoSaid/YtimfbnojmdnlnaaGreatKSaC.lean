/- Trees that are equal but for the kind of their slices. -/
import Derived.Test.YtimfbnojmdnlnaaGreatKAmA
set_option linter.unusedVariables false
set_option linter.unusedSimpArgs false
namespace Go.Proofs.YtimfbnojmdnlnaaGreat
namespace AM
mutual
def eqv : V → V → Bool
 | .bool a, .bool b => a == b
 | .int _ a, .int _ b => a == b
 | .str a, .str b => a.toList == b.toList
 | .slice _ xs, .slice _ ys => eqvR xs ys
 | _, _ => false
def eqvL : List V → List V → Bool
 | [], [] => true
 | a :: as, b :: bs => eqv a b && eqvL as bs
 | _, _ => false
def eqvR : List (List V) → List (List V) → Bool
 | [], [] => true
 | a :: as, b :: bs => eqvL a b && eqvR as bs
 | _, _ => false
end
mutual
theorem eqv_comm : ∀ a b, eqv a b = eqv b a
 | .bool a, w => by cases w <;> simp [eqv, Bool.beq_comm]
 | .int _ a, w => by cases w <;> simp [eqv, Bool.beq_comm]
 | .str a, w => by cases w <;> simp [eqv]; exact Bool.beq_comm
 | .slice _ xs, w => by cases w <;> simp [eqv]; exact eqvR_comm xs _
 | .undef, w => by cases w <;> simp [eqv]
 | .ptr _ _ _, w => by cases w <;> simp [eqv]
 | .nilp, w => by cases w <;> simp [eqv]
 | .look _, w => by cases w <;> simp [eqv]
 | .func _ _, w => by cases w <;> simp [eqv]
 | .nilf, w => by cases w <;> simp [eqv]
 | .ifc _ _, w => by cases w <;> simp [eqv]
 | .nili, w => by cases w <;> simp [eqv]
 | .agg _, w => by cases w <;> simp [eqv]
 | .tup _, w => by cases w <;> simp [eqv]
 | .fresh _, w => by cases w <;> simp [eqv]
 | .mir _ _ _ _ _, w => by cases w <;> simp [eqv]
 | .bsl _ _ _ _ _ _, w => by cases w <;> simp [eqv]
theorem eqvL_comm : ∀ as bs, eqvL as bs = eqvL bs as
 | [], [] => rfl
 | [], _ :: _ => by simp [eqvL]
 | _ :: _, [] => by simp [eqvL]
 | a :: as, b :: bs => by simp only [eqvL]; rw [eqv_comm a b, eqvL_comm as bs]
theorem eqvR_comm : ∀ as bs, eqvR as bs = eqvR bs as
 | [], [] => rfl
 | [], _ :: _ => by simp [eqvR]
 | _ :: _, [] => by simp [eqvR]
 | a :: as, b :: bs => by simp only [eqvR]; rw [eqvL_comm a b, eqvR_comm as bs]
end
end AM
end Go.Proofs.YtimfbnojmdnlnaaGreat
