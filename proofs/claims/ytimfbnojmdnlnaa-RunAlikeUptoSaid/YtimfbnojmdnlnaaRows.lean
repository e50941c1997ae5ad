/-
  NARROWER THAN 'FOR EVERY INPUT', by the rows' own cells (each row's printed sentence says how): LangChecks: loops · LangPaths: loops · LangSame: loops · LangPutBack: loops · RunAlike: loops.
  DERIVED. THE GIVEN ROWS OF THIS SEAT. 5 by the template 'for every input the law returns true; each argument reads behind the call as it read before'; 0 by the template 'total and deterministic' (their statements: YtimfbnojmdnlnaaTotals.lean).
  GIVEN WITH THE SEED: the statements are not yours to turn. If you find one false, say at which input.
  Laid BY PROGRAM, IN A SANDBOX (cutbox-rows.mjs): the forced cells as the released guide's own fill.sh prints them over the translation 5ccf5fd6e8dc2cdf… (all of the seat's roots in one cut). By AI agents, Wed Nov 11 2026. No macro, syntax, notation, axiom, sorry.
-/
import Derived.Test.YtimfbnojmdnlnaaChecked
import GoSem.Claim
import GoSem.ClaimJoined
import GoSem.ClaimMapViews
import Derived.JoinedTies
import Derived.KernelRfl
namespace Go.Proofs.Ytimfbnojmdnlnaa
/- THE CELL 'sum', in the pinned program and in every row, IS THE sha256 OF THE DUMP (.gsa) THAT YtimfbnojmdnlnaaProg.lean LOADS. Nothing in Lean hashes anything: it is a label: what it is worth is what the hold of that sum in a sandbox is worth. -/
noncomputable def Try.pinned : Pinned := { name := "ytimfbnojmdnlnaa", sum := "5ccf5fd6e8dc2cdfe83973bd9a576abe2d16eb2f32a37e97e6b0b604573f3cc4", checked := Try.checked }
namespace Rows
def none {H : Type} : Left H := { results := [], args := [] }

/-- 'headlandlaw10.LangChecks': WHATEVER THE INPUT: true; the input reads as it did. -/
def langChecksSpec : ChangeSpec := { name := "langChecks", fn := fun _ => fun
  | [d] => { results := [.lit (.bool true)], args := [d] }
  | _ => none }
def langChecksRow : OpenClaim := { program := "ytimfbnojmdnlnaa", sum := "5ccf5fd6e8dc2cdfe83973bd9a576abe2d16eb2f32a37e97e6b0b604573f3cc4", func := "headland/headlandlaw10.LangChecks", spec := "langChecks", inPlace := ["internal/bytealg.IndexByteString", "internal/bytealg.IndexString"], unfollowed := true, recurses := true, named := ["internal/bytealg.MaxLen"], loops := true, apart := false }
def LangChecksSaid : Prop := langChecksRow.holds Try.pinned (OpenSpec.ofChange langChecksSpec)

/-- ITS FALSE NEIGHBOUR: 'it returns false'. Refute it at one input. -/
def langChecksWrong : ChangeSpec := { name := "langChecks", fn := fun _ => fun
  | [d] => { results := [.lit (.bool false)], args := [d] }
  | _ => none }
def LangChecksWrongFalsely : Prop := langChecksRow.holds Try.pinned (OpenSpec.ofChange langChecksWrong)

/-- 'headlandlaw10.LangPaths': WHATEVER THE INPUT: true; the input reads as it did. -/
def langPathsSpec : ChangeSpec := { name := "langPaths", fn := fun _ => fun
  | [d] => { results := [.lit (.bool true)], args := [d] }
  | _ => none }
def langPathsRow : OpenClaim := { program := "ytimfbnojmdnlnaa", sum := "5ccf5fd6e8dc2cdfe83973bd9a576abe2d16eb2f32a37e97e6b0b604573f3cc4", func := "headland/headlandlaw10.LangPaths", spec := "langPaths", inPlace := ["internal/bytealg.IndexByteString", "internal/bytealg.IndexString"], unfollowed := true, recurses := true, named := ["internal/bytealg.MaxLen"], loops := true, apart := false }
def LangPathsSaid : Prop := langPathsRow.holds Try.pinned (OpenSpec.ofChange langPathsSpec)

/-- ITS FALSE NEIGHBOUR: 'it returns false'. Refute it at one input. -/
def langPathsWrong : ChangeSpec := { name := "langPaths", fn := fun _ => fun
  | [d] => { results := [.lit (.bool false)], args := [d] }
  | _ => none }
def LangPathsWrongFalsely : Prop := langPathsRow.holds Try.pinned (OpenSpec.ofChange langPathsWrong)

/-- 'headlandlaw10.LangSame': WHATEVER THE INPUT: true; the input reads as it did. -/
def langSameSpec : ChangeSpec := { name := "langSame", fn := fun _ => fun
  | [d1, d2] => { results := [.lit (.bool true)], args := [d1, d2] }
  | _ => none }
def langSameRow : OpenClaim := { program := "ytimfbnojmdnlnaa", sum := "5ccf5fd6e8dc2cdfe83973bd9a576abe2d16eb2f32a37e97e6b0b604573f3cc4", func := "headland/headlandlaw10.LangSame", spec := "langSame", inPlace := ["internal/bytealg.IndexByteString", "internal/bytealg.IndexString"], unfollowed := true, recurses := true, named := ["internal/bytealg.MaxLen"], loops := true, apart := false }
def LangSameSaid : Prop := langSameRow.holds Try.pinned (OpenSpec.ofChange langSameSpec)

/-- ITS FALSE NEIGHBOUR: 'it returns false'. Refute it at one input. -/
def langSameWrong : ChangeSpec := { name := "langSame", fn := fun _ => fun
  | [d1, d2] => { results := [.lit (.bool false)], args := [d1, d2] }
  | _ => none }
def LangSameWrongFalsely : Prop := langSameRow.holds Try.pinned (OpenSpec.ofChange langSameWrong)

/-- 'headlandlaw10.LangPutBack': WHATEVER THE INPUT: true; the input reads as it did. -/
def langPutBackSpec : ChangeSpec := { name := "langPutBack", fn := fun _ => fun
  | [d1, d2] => { results := [.lit (.bool true)], args := [d1, d2] }
  | _ => none }
def langPutBackRow : OpenClaim := { program := "ytimfbnojmdnlnaa", sum := "5ccf5fd6e8dc2cdfe83973bd9a576abe2d16eb2f32a37e97e6b0b604573f3cc4", func := "headland/headlandlaw10.LangPutBack", spec := "langPutBack", inPlace := ["internal/bytealg.IndexByteString", "internal/bytealg.IndexString"], unfollowed := true, recurses := true, named := ["internal/bytealg.MaxLen"], loops := true, apart := false }
def LangPutBackSaid : Prop := langPutBackRow.holds Try.pinned (OpenSpec.ofChange langPutBackSpec)

/-- ITS FALSE NEIGHBOUR: 'it returns false'. Refute it at one input. -/
def langPutBackWrong : ChangeSpec := { name := "langPutBack", fn := fun _ => fun
  | [d1, d2] => { results := [.lit (.bool false)], args := [d1, d2] }
  | _ => none }
def LangPutBackWrongFalsely : Prop := langPutBackRow.holds Try.pinned (OpenSpec.ofChange langPutBackWrong)

/-- 'headlandlaw12.RunAlike': WHATEVER THE INPUT: true; the input reads as it did. -/
def runAlikeSpec : ChangeSpec := { name := "runAlike", fn := fun _ => fun
  | [d1, d2, d3] => { results := [.lit (.bool true)], args := [d1, d2, d3] }
  | _ => none }
def runAlikeRow : OpenClaim := { program := "ytimfbnojmdnlnaa", sum := "5ccf5fd6e8dc2cdfe83973bd9a576abe2d16eb2f32a37e97e6b0b604573f3cc4", func := "headland/headlandlaw12.RunAlike", spec := "runAlike", inPlace := ["internal/bytealg.IndexByteString", "internal/bytealg.IndexString"], unfollowed := true, recurses := true, named := ["internal/bytealg.MaxLen"], loops := true, apart := false }
def RunAlikeSaid : Prop := runAlikeRow.holds Try.pinned (OpenSpec.ofChange runAlikeSpec)

/-- ITS FALSE NEIGHBOUR: 'it returns false'. Refute it at one input. -/
def runAlikeWrong : ChangeSpec := { name := "runAlike", fn := fun _ => fun
  | [d1, d2, d3] => { results := [.lit (.bool false)], args := [d1, d2, d3] }
  | _ => none }
def RunAlikeWrongFalsely : Prop := runAlikeRow.holds Try.pinned (OpenSpec.ofChange runAlikeWrong)

/- THE SECOND FORM. 'bulk': how many values and letters a reading holds, each counted each time it is reached (what is shared counts as often as it is met; a slice's spare places count too). A statement '..UptoSaid' is the law's where the arguments, and the package variables that the reading takes, are together of bulk at most 1048576: NARROWER than '..Said'. Prove '..Said' where nothing that the law and all that it calls make is longer than what came in: it says more and counts as full. Else prove '..UptoSaid'. A law counts once. -/
mutual
def uptoBulk {H : Type} : DataW H → Nat
  | .lit (.string bytes) => bytes.length + 1
  | .lit _ => 1
  | .nil => 1
  | .ptr d => uptoBulk d + 1
  | .slice elems spare => uptoBulkAll elems + uptoBulkAll spare + 1
  | .agg parts => uptoBulkAll parts + 1
  | .iface _ d => uptoBulk d + 1
  | .map entries => uptoBulkEntries entries + 1
  | .held _ => 1
def uptoBulkAll {H : Type} : List (DataW H) → Nat
  | [] => 0
  | d :: r => uptoBulk d + uptoBulkAll r
def uptoBulkEntries {H : Type} : List (Lit × DataW H) → Nat
  | [] => 0
  | x :: r => uptoBulkEntry x + uptoBulkEntries r
def uptoBulkEntry {H : Type} : Lit × DataW H → Nat
  | (.string bytes, d) => bytes.length + uptoBulk d + 1
  | (_, d) => uptoBulk d + 1
 end
def uptoSmall : (H : Type) → List (DataW H) → Bool := fun _ ds => decide (uptoBulkAll ds ≤ 1048576)
def OpenSpec.upto (s : _root_.Go.ChangeSpec) : _root_.Go.OpenSpec := { _root_.Go.OpenSpec.ofChange s with cond := some uptoSmall }

/-- 'headlandlaw10.LangChecks', WHERE WHAT IT READS IS OF BULK AT MOST 1048576: true; the input reads as it did. -/
def langChecksUptoRow : OpenClaim := { program := "ytimfbnojmdnlnaa", sum := "5ccf5fd6e8dc2cdfe83973bd9a576abe2d16eb2f32a37e97e6b0b604573f3cc4", func := "headland/headlandlaw10.LangChecks", spec := "langChecks", inPlace := ["internal/bytealg.IndexByteString", "internal/bytealg.IndexString"], unfollowed := true, recurses := true, named := ["internal/bytealg.MaxLen"], loops := true, apart := false, narrowed := true }
def LangChecksUptoSaid : Prop := langChecksUptoRow.holds Try.pinned (OpenSpec.upto langChecksSpec)

/-- 'headlandlaw10.LangPaths', WHERE WHAT IT READS IS OF BULK AT MOST 1048576: true; the input reads as it did. -/
def langPathsUptoRow : OpenClaim := { program := "ytimfbnojmdnlnaa", sum := "5ccf5fd6e8dc2cdfe83973bd9a576abe2d16eb2f32a37e97e6b0b604573f3cc4", func := "headland/headlandlaw10.LangPaths", spec := "langPaths", inPlace := ["internal/bytealg.IndexByteString", "internal/bytealg.IndexString"], unfollowed := true, recurses := true, named := ["internal/bytealg.MaxLen"], loops := true, apart := false, narrowed := true }
def LangPathsUptoSaid : Prop := langPathsUptoRow.holds Try.pinned (OpenSpec.upto langPathsSpec)

/-- 'headlandlaw10.LangSame', WHERE WHAT IT READS IS OF BULK AT MOST 1048576: true; the input reads as it did. -/
def langSameUptoRow : OpenClaim := { program := "ytimfbnojmdnlnaa", sum := "5ccf5fd6e8dc2cdfe83973bd9a576abe2d16eb2f32a37e97e6b0b604573f3cc4", func := "headland/headlandlaw10.LangSame", spec := "langSame", inPlace := ["internal/bytealg.IndexByteString", "internal/bytealg.IndexString"], unfollowed := true, recurses := true, named := ["internal/bytealg.MaxLen"], loops := true, apart := false, narrowed := true }
def LangSameUptoSaid : Prop := langSameUptoRow.holds Try.pinned (OpenSpec.upto langSameSpec)

/-- 'headlandlaw10.LangPutBack', WHERE WHAT IT READS IS OF BULK AT MOST 1048576: true; the input reads as it did. -/
def langPutBackUptoRow : OpenClaim := { program := "ytimfbnojmdnlnaa", sum := "5ccf5fd6e8dc2cdfe83973bd9a576abe2d16eb2f32a37e97e6b0b604573f3cc4", func := "headland/headlandlaw10.LangPutBack", spec := "langPutBack", inPlace := ["internal/bytealg.IndexByteString", "internal/bytealg.IndexString"], unfollowed := true, recurses := true, named := ["internal/bytealg.MaxLen"], loops := true, apart := false, narrowed := true }
def LangPutBackUptoSaid : Prop := langPutBackUptoRow.holds Try.pinned (OpenSpec.upto langPutBackSpec)

/-- 'headlandlaw12.RunAlike', WHERE WHAT IT READS IS OF BULK AT MOST 1048576: true; the input reads as it did. -/
def runAlikeUptoRow : OpenClaim := { program := "ytimfbnojmdnlnaa", sum := "5ccf5fd6e8dc2cdfe83973bd9a576abe2d16eb2f32a37e97e6b0b604573f3cc4", func := "headland/headlandlaw12.RunAlike", spec := "runAlike", inPlace := ["internal/bytealg.IndexByteString", "internal/bytealg.IndexString"], unfollowed := true, recurses := true, named := ["internal/bytealg.MaxLen"], loops := true, apart := false, narrowed := true }
def RunAlikeUptoSaid : Prop := runAlikeUptoRow.holds Try.pinned (OpenSpec.upto runAlikeSpec)

end Rows
end Go.Proofs.Ytimfbnojmdnlnaa
