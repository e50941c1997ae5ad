/-
  NARROWER THAN 'FOR EVERY INPUT', by the rows' own cells (each row's printed sentence says how): LangAssigns: loops · LangPuts: loops · RunRuns: loops · RunMarks: loops · RunFresh: loops · RunTraces: loops · RunInsts: loops · RunKept: loops.
  DERIVED. THE GIVEN ROWS OF THIS SEAT. 8 by the template 'for every input the law returns true; each argument reads behind the call as it read before'; 0 by the template 'total and deterministic' (their statements: YtimfbnojmdnlnaaGreatTotals.lean).
  GIVEN WITH THE SEED: the statements are not yours to turn. If you find one false, say at which input.
  Laid BY PROGRAM, IN A SANDBOX (cutbox-rows.mjs): the forced cells as the released guide's own fill.sh prints them over the translation 0aa75bbca306a151… (all of the seat's roots in one cut). By AI agents, Wed Nov 11 2026. No macro, syntax, notation, axiom, sorry.
-/
import Derived.Test.YtimfbnojmdnlnaaGreatChecked
import GoSem.Claim
import GoSem.ClaimJoined
import GoSem.ClaimMapViews
import Derived.JoinedTies
import Derived.KernelRfl
namespace Go.Proofs.YtimfbnojmdnlnaaGreat
/- THE CELL 'sum', in the pinned program and in every row, IS THE sha256 OF THE DUMP (.gsa) THAT YtimfbnojmdnlnaaGreatProg.lean LOADS. Nothing in Lean hashes anything: it is a label: what it is worth is what the hold of that sum in a sandbox is worth. -/
noncomputable def Tryz.pinned : Pinned := { name := "ytimfbnojmdnlnaagreat", sum := "0aa75bbca306a1515a023d31b283fd90a2bf76034328a2c6e020e0ed230d03f1", checked := Tryz.checked }
namespace Rows
def none {H : Type} : Left H := { results := [], args := [] }

/-- 'headlandlaw10.LangAssigns': WHATEVER THE INPUT: true; the input reads as it did. -/
def langAssignsSpec : ChangeSpec := { name := "langAssigns", fn := fun _ => fun
  | [d1, d2] => { results := [.lit (.bool true)], args := [d1, d2] }
  | _ => none }
def langAssignsRow : OpenClaim := { program := "ytimfbnojmdnlnaagreat", sum := "0aa75bbca306a1515a023d31b283fd90a2bf76034328a2c6e020e0ed230d03f1", func := "headland/headlandlaw10.LangAssigns", spec := "langAssigns", inPlace := ["internal/bytealg.IndexByteString", "internal/bytealg.IndexString"], unfollowed := true, recurses := true, named := ["internal/bytealg.MaxLen"], loops := true, apart := false }
def LangAssignsSaid : Prop := langAssignsRow.holds Tryz.pinned (OpenSpec.ofChange langAssignsSpec)

/-- ITS FALSE NEIGHBOUR: 'it returns false'. Refute it at one input. -/
def langAssignsWrong : ChangeSpec := { name := "langAssigns", fn := fun _ => fun
  | [d1, d2] => { results := [.lit (.bool false)], args := [d1, d2] }
  | _ => none }
def LangAssignsWrongFalsely : Prop := langAssignsRow.holds Tryz.pinned (OpenSpec.ofChange langAssignsWrong)

/-- 'headlandlaw10.LangPuts': WHATEVER THE INPUT: true; the input reads as it did. -/
def langPutsSpec : ChangeSpec := { name := "langPuts", fn := fun _ => fun
  | [d1, d2, d3] => { results := [.lit (.bool true)], args := [d1, d2, d3] }
  | _ => none }
def langPutsRow : OpenClaim := { program := "ytimfbnojmdnlnaagreat", sum := "0aa75bbca306a1515a023d31b283fd90a2bf76034328a2c6e020e0ed230d03f1", func := "headland/headlandlaw10.LangPuts", spec := "langPuts", inPlace := ["internal/bytealg.IndexByteString", "internal/bytealg.IndexString"], unfollowed := true, recurses := true, named := ["internal/bytealg.MaxLen"], loops := true, apart := false }
def LangPutsSaid : Prop := langPutsRow.holds Tryz.pinned (OpenSpec.ofChange langPutsSpec)

/-- ITS FALSE NEIGHBOUR: 'it returns false'. Refute it at one input. -/
def langPutsWrong : ChangeSpec := { name := "langPuts", fn := fun _ => fun
  | [d1, d2, d3] => { results := [.lit (.bool false)], args := [d1, d2, d3] }
  | _ => none }
def LangPutsWrongFalsely : Prop := langPutsRow.holds Tryz.pinned (OpenSpec.ofChange langPutsWrong)

/-- 'headlandlaw12.RunRuns': WHATEVER THE INPUT: true; the input reads as it did. -/
def runRunsSpec : ChangeSpec := { name := "runRuns", fn := fun _ => fun
  | [d1, d2, d3] => { results := [.lit (.bool true)], args := [d1, d2, d3] }
  | _ => none }
def runRunsRow : OpenClaim := { program := "ytimfbnojmdnlnaagreat", sum := "0aa75bbca306a1515a023d31b283fd90a2bf76034328a2c6e020e0ed230d03f1", func := "headland/headlandlaw12.RunRuns", spec := "runRuns", inPlace := ["internal/bytealg.IndexByteString", "internal/bytealg.IndexString"], unfollowed := true, recurses := true, named := ["internal/bytealg.MaxLen"], loops := true, apart := false }
def RunRunsSaid : Prop := runRunsRow.holds Tryz.pinned (OpenSpec.ofChange runRunsSpec)

/-- ITS FALSE NEIGHBOUR: 'it returns false'. Refute it at one input. -/
def runRunsWrong : ChangeSpec := { name := "runRuns", fn := fun _ => fun
  | [d1, d2, d3] => { results := [.lit (.bool false)], args := [d1, d2, d3] }
  | _ => none }
def RunRunsWrongFalsely : Prop := runRunsRow.holds Tryz.pinned (OpenSpec.ofChange runRunsWrong)

/-- 'headlandlaw12.RunMarks': WHATEVER THE INPUT: true; the input reads as it did. -/
def runMarksSpec : ChangeSpec := { name := "runMarks", fn := fun _ => fun
  | [d1, d2, d3, d4] => { results := [.lit (.bool true)], args := [d1, d2, d3, d4] }
  | _ => none }
def runMarksRow : OpenClaim := { program := "ytimfbnojmdnlnaagreat", sum := "0aa75bbca306a1515a023d31b283fd90a2bf76034328a2c6e020e0ed230d03f1", func := "headland/headlandlaw12.RunMarks", spec := "runMarks", inPlace := ["internal/bytealg.IndexByteString", "internal/bytealg.IndexString"], unfollowed := true, recurses := true, named := ["internal/bytealg.MaxLen"], loops := true, apart := false }
def RunMarksSaid : Prop := runMarksRow.holds Tryz.pinned (OpenSpec.ofChange runMarksSpec)

/-- ITS FALSE NEIGHBOUR: 'it returns false'. Refute it at one input. -/
def runMarksWrong : ChangeSpec := { name := "runMarks", fn := fun _ => fun
  | [d1, d2, d3, d4] => { results := [.lit (.bool false)], args := [d1, d2, d3, d4] }
  | _ => none }
def RunMarksWrongFalsely : Prop := runMarksRow.holds Tryz.pinned (OpenSpec.ofChange runMarksWrong)

/-- 'headlandlaw12.RunFresh': WHATEVER THE INPUT: true; the input reads as it did. -/
def runFreshSpec : ChangeSpec := { name := "runFresh", fn := fun _ => fun
  | [d1, d2, d3] => { results := [.lit (.bool true)], args := [d1, d2, d3] }
  | _ => none }
def runFreshRow : OpenClaim := { program := "ytimfbnojmdnlnaagreat", sum := "0aa75bbca306a1515a023d31b283fd90a2bf76034328a2c6e020e0ed230d03f1", func := "headland/headlandlaw12.RunFresh", spec := "runFresh", inPlace := ["internal/bytealg.IndexByteString", "internal/bytealg.IndexString"], unfollowed := true, recurses := true, named := ["internal/bytealg.MaxLen"], loops := true, apart := false }
def RunFreshSaid : Prop := runFreshRow.holds Tryz.pinned (OpenSpec.ofChange runFreshSpec)

/-- ITS FALSE NEIGHBOUR: 'it returns false'. Refute it at one input. -/
def runFreshWrong : ChangeSpec := { name := "runFresh", fn := fun _ => fun
  | [d1, d2, d3] => { results := [.lit (.bool false)], args := [d1, d2, d3] }
  | _ => none }
def RunFreshWrongFalsely : Prop := runFreshRow.holds Tryz.pinned (OpenSpec.ofChange runFreshWrong)

/-- 'headlandlaw12.RunTraces': WHATEVER THE INPUT: true; the input reads as it did. -/
def runTracesSpec : ChangeSpec := { name := "runTraces", fn := fun _ => fun
  | [d1, d2, d3] => { results := [.lit (.bool true)], args := [d1, d2, d3] }
  | _ => none }
def runTracesRow : OpenClaim := { program := "ytimfbnojmdnlnaagreat", sum := "0aa75bbca306a1515a023d31b283fd90a2bf76034328a2c6e020e0ed230d03f1", func := "headland/headlandlaw12.RunTraces", spec := "runTraces", inPlace := ["internal/bytealg.IndexByteString", "internal/bytealg.IndexString"], unfollowed := true, recurses := true, named := ["internal/bytealg.MaxLen"], loops := true, apart := false }
def RunTracesSaid : Prop := runTracesRow.holds Tryz.pinned (OpenSpec.ofChange runTracesSpec)

/-- ITS FALSE NEIGHBOUR: 'it returns false'. Refute it at one input. -/
def runTracesWrong : ChangeSpec := { name := "runTraces", fn := fun _ => fun
  | [d1, d2, d3] => { results := [.lit (.bool false)], args := [d1, d2, d3] }
  | _ => none }
def RunTracesWrongFalsely : Prop := runTracesRow.holds Tryz.pinned (OpenSpec.ofChange runTracesWrong)

/-- 'headlandlaw12.RunInsts': WHATEVER THE INPUT: true; the input reads as it did. -/
def runInstsSpec : ChangeSpec := { name := "runInsts", fn := fun _ => fun
  | [d1, d2] => { results := [.lit (.bool true)], args := [d1, d2] }
  | _ => none }
def runInstsRow : OpenClaim := { program := "ytimfbnojmdnlnaagreat", sum := "0aa75bbca306a1515a023d31b283fd90a2bf76034328a2c6e020e0ed230d03f1", func := "headland/headlandlaw12.RunInsts", spec := "runInsts", inPlace := ["internal/bytealg.IndexByteString", "internal/bytealg.IndexString"], unfollowed := true, recurses := true, named := ["internal/bytealg.MaxLen"], loops := true, apart := false }
def RunInstsSaid : Prop := runInstsRow.holds Tryz.pinned (OpenSpec.ofChange runInstsSpec)

/-- ITS FALSE NEIGHBOUR: 'it returns false'. Refute it at one input. -/
def runInstsWrong : ChangeSpec := { name := "runInsts", fn := fun _ => fun
  | [d1, d2] => { results := [.lit (.bool false)], args := [d1, d2] }
  | _ => none }
def RunInstsWrongFalsely : Prop := runInstsRow.holds Tryz.pinned (OpenSpec.ofChange runInstsWrong)

/-- 'headlandlaw12.RunKept': WHATEVER THE INPUT: true; the input reads as it did. -/
def runKeptSpec : ChangeSpec := { name := "runKept", fn := fun _ => fun
  | [d1, d2, d3] => { results := [.lit (.bool true)], args := [d1, d2, d3] }
  | _ => none }
def runKeptRow : OpenClaim := { program := "ytimfbnojmdnlnaagreat", sum := "0aa75bbca306a1515a023d31b283fd90a2bf76034328a2c6e020e0ed230d03f1", func := "headland/headlandlaw12.RunKept", spec := "runKept", inPlace := ["internal/bytealg.IndexByteString", "internal/bytealg.IndexString"], unfollowed := true, recurses := true, named := ["internal/bytealg.MaxLen"], loops := true, apart := false }
def RunKeptSaid : Prop := runKeptRow.holds Tryz.pinned (OpenSpec.ofChange runKeptSpec)

/-- ITS FALSE NEIGHBOUR: 'it returns false'. Refute it at one input. -/
def runKeptWrong : ChangeSpec := { name := "runKept", fn := fun _ => fun
  | [d1, d2, d3] => { results := [.lit (.bool false)], args := [d1, d2, d3] }
  | _ => none }
def RunKeptWrongFalsely : Prop := runKeptRow.holds Tryz.pinned (OpenSpec.ofChange runKeptWrong)

/- THE SECOND FORM. 'bulk': how many values and letters a reading holds, each counted each time it is reached (what is shared counts as often as it is met; a slice's spare places count too). A statement '..UptoSaid' is the law's where the arguments, and the package variables that the reading takes, are together of bulk at most 1048576: NARROWER than '..Said'. Prove '..Said' where nothing that the law and all that it calls make is longer than what came in: it says more and counts as full. Else prove '..UptoSaid'. A law counts once. -/
mutual
def uptoBulk {H : Type} : DataW H → Nat
  | .lit (.string bytes) => bytes.length + 1
  | .lit _ => 1
  | .nil => 1
  | .ptr d => uptoBulk d + 1
  | .slice elems spare => uptoBulkAll elems + uptoBulkAll spare + 1
  | .agg parts => uptoBulkAll parts + 1
  | .iface _ d => uptoBulk d + 1
  | .map entries => uptoBulkEntries entries + 1
  | .held _ => 1
def uptoBulkAll {H : Type} : List (DataW H) → Nat
  | [] => 0
  | d :: r => uptoBulk d + uptoBulkAll r
def uptoBulkEntries {H : Type} : List (Lit × DataW H) → Nat
  | [] => 0
  | x :: r => uptoBulkEntry x + uptoBulkEntries r
def uptoBulkEntry {H : Type} : Lit × DataW H → Nat
  | (.string bytes, d) => bytes.length + uptoBulk d + 1
  | (_, d) => uptoBulk d + 1
 end
def uptoSmall : (H : Type) → List (DataW H) → Bool := fun _ ds => decide (uptoBulkAll ds ≤ 1048576)
def OpenSpec.upto (s : _root_.Go.ChangeSpec) : _root_.Go.OpenSpec := { _root_.Go.OpenSpec.ofChange s with cond := some uptoSmall }

/-- 'headlandlaw10.LangAssigns', WHERE WHAT IT READS IS OF BULK AT MOST 1048576: true; the input reads as it did. -/
def langAssignsUptoRow : OpenClaim := { program := "ytimfbnojmdnlnaagreat", sum := "0aa75bbca306a1515a023d31b283fd90a2bf76034328a2c6e020e0ed230d03f1", func := "headland/headlandlaw10.LangAssigns", spec := "langAssigns", inPlace := ["internal/bytealg.IndexByteString", "internal/bytealg.IndexString"], unfollowed := true, recurses := true, named := ["internal/bytealg.MaxLen"], loops := true, apart := false, narrowed := true }
def LangAssignsUptoSaid : Prop := langAssignsUptoRow.holds Tryz.pinned (OpenSpec.upto langAssignsSpec)

/-- 'headlandlaw10.LangPuts', WHERE WHAT IT READS IS OF BULK AT MOST 1048576: true; the input reads as it did. -/
def langPutsUptoRow : OpenClaim := { program := "ytimfbnojmdnlnaagreat", sum := "0aa75bbca306a1515a023d31b283fd90a2bf76034328a2c6e020e0ed230d03f1", func := "headland/headlandlaw10.LangPuts", spec := "langPuts", inPlace := ["internal/bytealg.IndexByteString", "internal/bytealg.IndexString"], unfollowed := true, recurses := true, named := ["internal/bytealg.MaxLen"], loops := true, apart := false, narrowed := true }
def LangPutsUptoSaid : Prop := langPutsUptoRow.holds Tryz.pinned (OpenSpec.upto langPutsSpec)

/-- 'headlandlaw12.RunRuns', WHERE WHAT IT READS IS OF BULK AT MOST 1048576: true; the input reads as it did. -/
def runRunsUptoRow : OpenClaim := { program := "ytimfbnojmdnlnaagreat", sum := "0aa75bbca306a1515a023d31b283fd90a2bf76034328a2c6e020e0ed230d03f1", func := "headland/headlandlaw12.RunRuns", spec := "runRuns", inPlace := ["internal/bytealg.IndexByteString", "internal/bytealg.IndexString"], unfollowed := true, recurses := true, named := ["internal/bytealg.MaxLen"], loops := true, apart := false, narrowed := true }
def RunRunsUptoSaid : Prop := runRunsUptoRow.holds Tryz.pinned (OpenSpec.upto runRunsSpec)

/-- 'headlandlaw12.RunMarks', WHERE WHAT IT READS IS OF BULK AT MOST 1048576: true; the input reads as it did. -/
def runMarksUptoRow : OpenClaim := { program := "ytimfbnojmdnlnaagreat", sum := "0aa75bbca306a1515a023d31b283fd90a2bf76034328a2c6e020e0ed230d03f1", func := "headland/headlandlaw12.RunMarks", spec := "runMarks", inPlace := ["internal/bytealg.IndexByteString", "internal/bytealg.IndexString"], unfollowed := true, recurses := true, named := ["internal/bytealg.MaxLen"], loops := true, apart := false, narrowed := true }
def RunMarksUptoSaid : Prop := runMarksUptoRow.holds Tryz.pinned (OpenSpec.upto runMarksSpec)

/-- 'headlandlaw12.RunFresh', WHERE WHAT IT READS IS OF BULK AT MOST 1048576: true; the input reads as it did. -/
def runFreshUptoRow : OpenClaim := { program := "ytimfbnojmdnlnaagreat", sum := "0aa75bbca306a1515a023d31b283fd90a2bf76034328a2c6e020e0ed230d03f1", func := "headland/headlandlaw12.RunFresh", spec := "runFresh", inPlace := ["internal/bytealg.IndexByteString", "internal/bytealg.IndexString"], unfollowed := true, recurses := true, named := ["internal/bytealg.MaxLen"], loops := true, apart := false, narrowed := true }
def RunFreshUptoSaid : Prop := runFreshUptoRow.holds Tryz.pinned (OpenSpec.upto runFreshSpec)

/-- 'headlandlaw12.RunTraces', WHERE WHAT IT READS IS OF BULK AT MOST 1048576: true; the input reads as it did. -/
def runTracesUptoRow : OpenClaim := { program := "ytimfbnojmdnlnaagreat", sum := "0aa75bbca306a1515a023d31b283fd90a2bf76034328a2c6e020e0ed230d03f1", func := "headland/headlandlaw12.RunTraces", spec := "runTraces", inPlace := ["internal/bytealg.IndexByteString", "internal/bytealg.IndexString"], unfollowed := true, recurses := true, named := ["internal/bytealg.MaxLen"], loops := true, apart := false, narrowed := true }
def RunTracesUptoSaid : Prop := runTracesUptoRow.holds Tryz.pinned (OpenSpec.upto runTracesSpec)

/-- 'headlandlaw12.RunInsts', WHERE WHAT IT READS IS OF BULK AT MOST 1048576: true; the input reads as it did. -/
def runInstsUptoRow : OpenClaim := { program := "ytimfbnojmdnlnaagreat", sum := "0aa75bbca306a1515a023d31b283fd90a2bf76034328a2c6e020e0ed230d03f1", func := "headland/headlandlaw12.RunInsts", spec := "runInsts", inPlace := ["internal/bytealg.IndexByteString", "internal/bytealg.IndexString"], unfollowed := true, recurses := true, named := ["internal/bytealg.MaxLen"], loops := true, apart := false, narrowed := true }
def RunInstsUptoSaid : Prop := runInstsUptoRow.holds Tryz.pinned (OpenSpec.upto runInstsSpec)

/-- 'headlandlaw12.RunKept', WHERE WHAT IT READS IS OF BULK AT MOST 1048576: true; the input reads as it did. -/
def runKeptUptoRow : OpenClaim := { program := "ytimfbnojmdnlnaagreat", sum := "0aa75bbca306a1515a023d31b283fd90a2bf76034328a2c6e020e0ed230d03f1", func := "headland/headlandlaw12.RunKept", spec := "runKept", inPlace := ["internal/bytealg.IndexByteString", "internal/bytealg.IndexString"], unfollowed := true, recurses := true, named := ["internal/bytealg.MaxLen"], loops := true, apart := false, narrowed := true }
def RunKeptUptoSaid : Prop := runKeptUptoRow.holds Tryz.pinned (OpenSpec.upto runKeptSpec)

end Rows
end Go.Proofs.YtimfbnojmdnlnaaGreat
