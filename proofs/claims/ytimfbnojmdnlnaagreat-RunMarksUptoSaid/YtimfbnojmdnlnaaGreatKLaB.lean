/- strings.Contains, as the shelf lays it, and what the evaluator says of it. -/
import Derived.Test.YtimfbnojmdnlnaaGreatKLaS
import Derived.Test.YtimfbnojmdnlnaaGreatKLaA
namespace Go.Proofs.YtimfbnojmdnlnaaGreat
namespace AM
open Go.Shelf
def containsH : CE → List V → St → Option (Out × St) := fun _ args S =>
 match args with
 | [.str a, .str b] => if a.size < 4294967281 then some (.ret (.bool (Lib.contains a.data.toList b.data.toList)), S) else none
 | _ => none
theorem lenIdx : Tryz.prog.globals.toList.findIdx? (fun x => x.name == "internal/bytealg.MaxLen") = some 0 := by kernel_rfl
theorem contains_ok {args : List V} {T : St} {out : Out} {T' : St} {cE : CE} (hv : containsH cE args T = some (out, T')) {g : Gh} {w : World} {vals : List Value} (I : Inv Tryz.prog T g w) (hr : RelL g (T.length + 1) args vals) :
  Enters Tryz.prog 171 ∧ CallsIn Fence.wide 0 Tryz.prog 171 ⟨vals⟩ w (OutPost Tryz.prog T g w T' out) := by
 unfold containsH at hv
 split at hv <;> try (cases hv; done)
 rename_i a b
 split at hv <;> try (cases hv; done)
 rename_i hsz
 simp only [Option.some.injEq, Prod.mk.injEq] at hv
 obtain ⟨rfl, rfl⟩ := hv
 simp only [RelL, Rel] at hr
 obtain ⟨_, _, rfl, rfl, _, _, rfl, rfl, rfl⟩ := hr
 obtain ⟨m, hm⟩ := I.K 0 lenIdx
 refine ⟨⟨Tryz.f171, Tryz.func171, by show ("strings.Contains" : String) ≠ _; decide, rfl⟩, callsIn_wide.2 ?_⟩
 refine (Any.strings_Contains Tryz.lays144 a b m w hsz (I.G _ _ _ hm).1).mono fun e w' he => ?_
 obtain ⟨rfl, rfl⟩ := he
 exact ⟨g, _, rfl, ⟨Le.refl _ _, fun l _ h => ⟨rfl, h⟩, Frm.refl _ _⟩, I, rfl, by simp [Rel], rfl, fun e xs h => by cases h⟩
end AM
end Go.Proofs.YtimfbnojmdnlnaaGreat
