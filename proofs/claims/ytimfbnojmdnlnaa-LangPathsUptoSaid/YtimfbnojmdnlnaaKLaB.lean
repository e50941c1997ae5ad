/- strings.Contains, as the shelf lays it, and what the evaluator says of it. -/
import Derived.Test.YtimfbnojmdnlnaaKLaS
import Derived.Test.YtimfbnojmdnlnaaKLaA
namespace Go.Proofs.Ytimfbnojmdnlnaa
namespace AM
open Go.Shelf

def containsH : CE → List V → St → Option (Out × St) := fun _ args S =>
  match args with
  | [.str a, .str b] => if a.size < 4294967281 then some (.ret (.bool (Lib.contains a.data.toList b.data.toList)), S) else none
  | _ => none

theorem lenIdx : Try.prog.globals.toList.findIdx? (fun x => x.name == "internal/bytealg.MaxLen") = some 0 := by kernel_rfl

theorem contains_ok {args : List V} {T : St} {out : Out} {T' : St} {cE : CE} (hv : containsH cE args T = some (out, T')) {g : Gh} {w : World} {vals : List Value} (I : Inv Try.prog T g w) (hr : RelL g (T.length + 1) args vals) :
    Enters Try.prog 128 ∧ CallsIn Fence.wide 0 Try.prog 128 ⟨vals⟩ w (OutPost Try.prog T g w T' out) := by
  unfold containsH at hv
  split at hv <;> try (cases hv; done)
  rename_i a b
  split at hv <;> try (cases hv; done)
  rename_i hsz
  simp only [Option.some.injEq, Prod.mk.injEq] at hv
  obtain ⟨rfl, rfl⟩ := hv
  simp only [RelL, Rel] at hr
  obtain ⟨_, _, rfl, rfl, _, _, rfl, rfl, rfl⟩ := hr
  obtain ⟨m, hm⟩ := I.K 0 lenIdx
  refine ⟨⟨Try.f128, Try.func128, by show ("strings.Contains" : String) ≠ _; decide, rfl⟩, callsIn_wide.2 ?_⟩
  refine (Any.strings_Contains Try.lays144 a b m w hsz (I.G _ _ _ hm).1).mono fun e w' he => ?_
  obtain ⟨rfl, rfl⟩ := he
  exact ⟨g, _, rfl, ⟨Le.refl _ _, fun l _ h => ⟨rfl, h⟩, Frm.refl _ _⟩, I, rfl, by simp [Rel], rfl, fun e xs h => by cases h⟩

end AM
end Go.Proofs.Ytimfbnojmdnlnaa
