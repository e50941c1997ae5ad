/- strings.Contains, as the shelf lays it: printed for the seat Ytimfbnojmdnlnaa; strings.Contains, as the shelf lays it, and what the evaluator says of it. -/
import Derived.Shelf.Strings.Search1
import Derived.Shelf.Strings.Search2
import Derived.Shelf.Strings.Search3
import Derived.Shelf.LaysM
import Derived.Shelf.Strings.Shaped
import Derived.Test.YtimfbnojmdnlnaaKLaA
section
namespace Go.Proofs
open Go.Shelf
def Try.lays144_ren:Go.Shelf.Ren:=⟨fun | 144=>128 | 143=>150 | 219=>161 | 217=>163 | 225=>164 | 224=>165 | 267=>166 | 266=>167 | 314=>168 | n=>n,fun | 9=>9 | 4=>4 | 3=>3 | 5=>5 | 46=>229 | 146=>231 | 51=>230 | n=>n,fun | 1=>0 | n=>n⟩
theorem Try.lays144:Go.Proofs.Lays.n144 Try.prog Try.lays144_ren:={
 mixed:=by kernel_rfl
 f143:=Try.func150.trans (congrArg some (by kernel_rfl))
 f144:=Try.func128.trans (congrArg some (by kernel_rfl))
 f217:=Try.func163.trans (congrArg some (by kernel_rfl))
 f219:=Try.func161.trans (congrArg some (by kernel_rfl))
 f224:=Try.func165.trans (congrArg some (by kernel_rfl))
 f225:=Try.func164.trans (congrArg some (by kernel_rfl))
 f266:=Try.func167.trans (congrArg some (by kernel_rfl))
 f267:=Try.func166.trans (congrArg some (by kernel_rfl))
 f314:=Try.func168.trans (congrArg some (by kernel_rfl))
 t3:=Try.underlying3
 a3:=Try.isAgg3
 z3:=Try.sizeOf3
 v3:=Try.zeroValue3
 t4:=Try.underlying4
 a4:=Try.isAgg4
 z4:=Try.sizeOf4
 v4:=Try.zeroValue4
 t5:=Try.underlying5
 a5:=Try.isAgg5
 z5:=Try.sizeOf5
 v5:=Try.zeroValue5
 t9:=Try.underlying9
 a9:=Try.isAgg9
 z9:=Try.sizeOf9
 v9:=Try.zeroValue9
 t46:=Try.underlying229
 a46:=Try.isAgg229
 z46:=Try.sizeOf229
 v46:=Try.zeroValue229
 t51:=Try.underlying230
 a51:=Try.isAgg230
 z51:=Try.sizeOf230
 v51:=Try.zeroValue230
 t146:=Try.underlying231
 a146:=Try.isAgg231
 z146:=Try.sizeOf231
 v146:=Try.zeroValue231
 g1:=by kernel_rfl }
end Go.Proofs
end
section
namespace Go.Proofs.Ytimfbnojmdnlnaa
namespace AM
open Go.Shelf
def containsH:CE→List V→St→Option (Out×St):=fun _ args S =>
 match args with
 | [.str a, .str b]=>if a.size < 4294967281 then some (.ret (.bool (Lib.contains a.data.toList b.data.toList)),S) else none
 | _=>none
theorem lenIdx : Try.prog.globals.toList.findIdx? (fun x => x.name == "internal/bytealg.MaxLen") = some 0 := by kernel_rfl
theorem contains_ok {args:List V} {T:St} {out:Out} {T':St} {cE:CE} (hv:containsH cE args T=some (out,T')) {g:Gh} {w:World} {vals:List Value} (I:Inv Try.prog T g w) (hr:RelL g (T.length+1) args vals) :
  Enters Try.prog 128∧CallsIn Fence.wide 0 Try.prog 128 ⟨vals⟩ w (OutPost Try.prog T g w T' out):=by
 unfold containsH at hv
 split at hv<;>try (cases hv; done)
 rename_i a b
 split at hv<;>try (cases hv; done)
 rename_i hsz
 simp only [Option.some.injEq,Prod.mk.injEq] at hv
 obtain ⟨rfl,rfl⟩:=hv
 simp only [RelL,Rel] at hr
 obtain ⟨_,_,rfl,rfl,_,_,rfl,rfl,rfl⟩:=hr
 obtain ⟨m,hm⟩:=I.K 0 lenIdx
 refine ⟨⟨Try.f128,Try.func128,by show ("strings.Contains" : String) ≠ _; decide,rfl⟩,callsIn_wide.2 ?_⟩
 refine (Any.strings_Contains Try.lays144 a b m w hsz (I.G _ _ _ hm).1).mono fun e w' he=>?_
 obtain ⟨rfl,rfl⟩:=he
 exact ⟨g,_,rfl,⟨Le.refl _ _,fun l _ h=>⟨rfl,h⟩,Frm.refl _ _⟩,I,rfl,by simp [Rel],rfl,fun e xs h=>by cases h⟩
end AM
end Go.Proofs.Ytimfbnojmdnlnaa
end
