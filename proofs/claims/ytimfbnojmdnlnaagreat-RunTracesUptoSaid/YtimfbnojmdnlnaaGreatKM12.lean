/- strings.Contains, as the shelf lays it: printed for the seat YtimfbnojmdnlnaaGreat; strings.Contains, as the shelf lays it, and what the evaluator says of it. -/
import Derived.Shelf.Strings.Search1
import Derived.Shelf.Strings.Search2
import Derived.Shelf.Strings.Search3
import Derived.Shelf.LaysM
import Derived.Shelf.Strings.Shaped
import Derived.Test.YtimfbnojmdnlnaaGreatKLaA
section
namespace Go.Proofs
open Go.Shelf
def Tryz.lays144_ren:Go.Shelf.Ren:=⟨fun | 144=>171 | 143=>185 | 219=>187 | 217=>188 | 225=>189 | 224=>190 | 267=>191 | 266=>192 | 314=>193 | n=>n,fun | 9=>9 | 4=>4 | 3=>3 | 5=>5 | 46=>258 | 146=>260 | 51=>259 | n=>n,fun | 1=>0 | n=>n⟩
theorem Tryz.lays144:Go.Proofs.Lays.n144 Tryz.prog Tryz.lays144_ren:={
 mixed:=by kernel_rfl
 f143:=Tryz.func185.trans (congrArg some (by kernel_rfl))
 f144:=Tryz.func171.trans (congrArg some (by kernel_rfl))
 f217:=Tryz.func188.trans (congrArg some (by kernel_rfl))
 f219:=Tryz.func187.trans (congrArg some (by kernel_rfl))
 f224:=Tryz.func190.trans (congrArg some (by kernel_rfl))
 f225:=Tryz.func189.trans (congrArg some (by kernel_rfl))
 f266:=Tryz.func192.trans (congrArg some (by kernel_rfl))
 f267:=Tryz.func191.trans (congrArg some (by kernel_rfl))
 f314:=Tryz.func193.trans (congrArg some (by kernel_rfl))
 t3:=Tryz.underlying3
 a3:=Tryz.isAgg3
 z3:=Tryz.sizeOf3
 v3:=Tryz.zeroValue3
 t4:=Tryz.underlying4
 a4:=Tryz.isAgg4
 z4:=Tryz.sizeOf4
 v4:=Tryz.zeroValue4
 t5:=Tryz.underlying5
 a5:=Tryz.isAgg5
 z5:=Tryz.sizeOf5
 v5:=Tryz.zeroValue5
 t9:=Tryz.underlying9
 a9:=Tryz.isAgg9
 z9:=Tryz.sizeOf9
 v9:=Tryz.zeroValue9
 t46:=Tryz.underlying258
 a46:=Tryz.isAgg258
 z46:=Tryz.sizeOf258
 v46:=Tryz.zeroValue258
 t51:=Tryz.underlying259
 a51:=Tryz.isAgg259
 z51:=Tryz.sizeOf259
 v51:=Tryz.zeroValue259
 t146:=Tryz.underlying260
 a146:=Tryz.isAgg260
 z146:=Tryz.sizeOf260
 v146:=Tryz.zeroValue260
 g1:=by kernel_rfl }
end Go.Proofs
end
section
namespace Go.Proofs.YtimfbnojmdnlnaaGreat
namespace AM
open Go.Shelf
def containsH:CE→List V→St→Option (Out×St):=fun _ args S =>
 match args with
 | [.str a, .str b]=>if a.size < 4294967281 then some (.ret (.bool (Lib.contains a.data.toList b.data.toList)),S) else none
 | _=>none
theorem lenIdx : Tryz.prog.globals.toList.findIdx? (fun x => x.name == "internal/bytealg.MaxLen") = some 0 := by kernel_rfl
theorem contains_ok {args:List V} {T:St} {out:Out} {T':St} {cE:CE} (hv:containsH cE args T=some (out,T')) {g:Gh} {w:World} {vals:List Value} (I:Inv Tryz.prog T g w) (hr:RelL g (T.length+1) args vals) :
  Enters Tryz.prog 171∧CallsIn Fence.wide 0 Tryz.prog 171 ⟨vals⟩ w (OutPost Tryz.prog T g w T' out):=by
 unfold containsH at hv
 split at hv<;>try (cases hv; done)
 rename_i a b
 split at hv<;>try (cases hv; done)
 rename_i hsz
 simp only [Option.some.injEq,Prod.mk.injEq] at hv
 obtain ⟨rfl,rfl⟩:=hv
 simp only [RelL,Rel] at hr
 obtain ⟨_,_,rfl,rfl,_,_,rfl,rfl,rfl⟩:=hr
 obtain ⟨m,hm⟩:=I.K 0 lenIdx
 refine ⟨⟨Tryz.f171,Tryz.func171,by show ("strings.Contains" : String) ≠ _; decide,rfl⟩,callsIn_wide.2 ?_⟩
 refine (Any.strings_Contains Tryz.lays144 a b m w hsz (I.G _ _ _ hm).1).mono fun e w' he=>?_
 obtain ⟨rfl,rfl⟩:=he
 exact ⟨g,_,rfl,⟨Le.refl _ _,fun l _ h=>⟨rfl,h⟩,Frm.refl _ _⟩,I,rfl,by simp [Rel],rfl,fun e xs h=>by cases h⟩
end AM
end Go.Proofs.YtimfbnojmdnlnaaGreat
end
