/-
  No cell of these rows narrows 'for every input' (looked for: loops, veiled, ifaces, maps, wideKeys, modest, calm, conditions, laid).
  DERIVED. THE GIVEN ROWS OF THIS SEAT. 12 by the template 'for every input the law returns true; each argument reads behind the call as it read before'; 0 by the template 'total and deterministic' (their statements: YtmbkmfpnjpkakaaTotals.lean).
  GIVEN WITH THE SEED: the statements are not yours to turn. If you find one false, say at which input.
  Laid BY PROGRAM, IN A SANDBOX (cutbox-rows.mjs): the forced cells as the released guide's own fill.sh prints them over the translation 124003d6988e0fda… (all of the seat's roots in one cut). By AI agents, Wed Nov 11 2026. No macro, syntax, notation, axiom, sorry.
-/
import Derived.Test.YtmbkmfpnjpkakaaChecked
import GoSem.Claim
import GoSem.ClaimJoined
import GoSem.ClaimMapViews
import Derived.JoinedTies
import Derived.KernelRfl
namespace Go.Proofs.Ytmbkmfpnjpkakaa
/- THE CELL 'sum', in the pinned program and in every row, IS THE sha256 OF THE DUMP (.gsa) THAT YtmbkmfpnjpkakaaProg.lean LOADS. Nothing in Lean hashes anything: it is a label: what it is worth is what the hold of that sum in a sandbox is worth. -/
noncomputable def Try.pinned : Pinned := { name := "ytmbkmfpnjpkakaa", sum := "124003d6988e0fdab364c629c7348872dd266156517f7e92a7b000ff4b0e5250", checked := Try.checked }
namespace Rows
def none {H : Type} : Left H := { results := [], args := [] }

/-- 'solventlaw17.ShelfNewMatchesSpec': WHATEVER THE INPUT: true; the input reads as it did. -/
def shelfNewMatchesSpecSpec : ChangeSpec := { name := "shelfNewMatchesSpec", fn := fun _ => fun
  | [d1, d2] => { results := [.lit (.bool true)], args := [d1, d2] }
  | _ => none }
def shelfNewMatchesSpecRow : OpenClaim := { program := "ytmbkmfpnjpkakaa", sum := "124003d6988e0fdab364c629c7348872dd266156517f7e92a7b000ff4b0e5250", func := "solvent/solventlaw17.ShelfNewMatchesSpec", spec := "shelfNewMatchesSpec", unfollowed := true, recurses := true, apart := false }
def ShelfNewMatchesSpecSaid : Prop := shelfNewMatchesSpecRow.holds Try.pinned (OpenSpec.ofChange shelfNewMatchesSpecSpec)

/-- ITS FALSE NEIGHBOUR: 'it returns false'. Refute it at one input. -/
def shelfNewMatchesSpecWrong : ChangeSpec := { name := "shelfNewMatchesSpec", fn := fun _ => fun
  | [d1, d2] => { results := [.lit (.bool false)], args := [d1, d2] }
  | _ => none }
def ShelfNewMatchesSpecWrongFalsely : Prop := shelfNewMatchesSpecRow.holds Try.pinned (OpenSpec.ofChange shelfNewMatchesSpecWrong)

/-- 'solventlaw16.DiskMatchesSpec': WHATEVER THE INPUT: true; the input reads as it did. -/
def diskMatchesSpecSpec : ChangeSpec := { name := "diskMatchesSpec", fn := fun _ => fun
  | [d1, d2] => { results := [.lit (.bool true)], args := [d1, d2] }
  | _ => none }
def diskMatchesSpecRow : OpenClaim := { program := "ytmbkmfpnjpkakaa", sum := "124003d6988e0fdab364c629c7348872dd266156517f7e92a7b000ff4b0e5250", func := "solvent/solventlaw16.DiskMatchesSpec", spec := "diskMatchesSpec", inPlace := ["internal/abi.NoEscape", "internal/bytealg.MakeNoZero"], unfollowed := true, recurses := true, apart := false }
def DiskMatchesSpecSaid : Prop := diskMatchesSpecRow.holds Try.pinned (OpenSpec.ofChange diskMatchesSpecSpec)

/-- ITS FALSE NEIGHBOUR: 'it returns false'. Refute it at one input. -/
def diskMatchesSpecWrong : ChangeSpec := { name := "diskMatchesSpec", fn := fun _ => fun
  | [d1, d2] => { results := [.lit (.bool false)], args := [d1, d2] }
  | _ => none }
def DiskMatchesSpecWrongFalsely : Prop := diskMatchesSpecRow.holds Try.pinned (OpenSpec.ofChange diskMatchesSpecWrong)

/-- 'solventlaw16.DiskSizes': WHATEVER THE INPUT: true; the input reads as it did. -/
def diskSizesSpec : ChangeSpec := { name := "diskSizes", fn := fun _ => fun
  | [d] => { results := [.lit (.bool true)], args := [d] }
  | _ => none }
def diskSizesRow : OpenClaim := { program := "ytmbkmfpnjpkakaa", sum := "124003d6988e0fdab364c629c7348872dd266156517f7e92a7b000ff4b0e5250", func := "solvent/solventlaw16.DiskSizes", spec := "diskSizes", inPlace := ["internal/abi.NoEscape", "internal/bytealg.MakeNoZero"], unfollowed := true, recurses := true, apart := false }
def DiskSizesSaid : Prop := diskSizesRow.holds Try.pinned (OpenSpec.ofChange diskSizesSpec)

/-- ITS FALSE NEIGHBOUR: 'it returns false'. Refute it at one input. -/
def diskSizesWrong : ChangeSpec := { name := "diskSizes", fn := fun _ => fun
  | [d] => { results := [.lit (.bool false)], args := [d] }
  | _ => none }
def DiskSizesWrongFalsely : Prop := diskSizesRow.holds Try.pinned (OpenSpec.ofChange diskSizesWrong)

/-- 'solventlaw16.DiskLasts': WHATEVER THE INPUT: true; the input reads as it did. -/
def diskLastsSpec : ChangeSpec := { name := "diskLasts", fn := fun _ => fun
  | [d1, d2, d3, d4] => { results := [.lit (.bool true)], args := [d1, d2, d3, d4] }
  | _ => none }
def diskLastsRow : OpenClaim := { program := "ytmbkmfpnjpkakaa", sum := "124003d6988e0fdab364c629c7348872dd266156517f7e92a7b000ff4b0e5250", func := "solvent/solventlaw16.DiskLasts", spec := "diskLasts", inPlace := ["internal/abi.NoEscape", "internal/bytealg.MakeNoZero"], unfollowed := true, recurses := true, apart := false }
def DiskLastsSaid : Prop := diskLastsRow.holds Try.pinned (OpenSpec.ofChange diskLastsSpec)

/-- ITS FALSE NEIGHBOUR: 'it returns false'. Refute it at one input. -/
def diskLastsWrong : ChangeSpec := { name := "diskLasts", fn := fun _ => fun
  | [d1, d2, d3, d4] => { results := [.lit (.bool false)], args := [d1, d2, d3, d4] }
  | _ => none }
def DiskLastsWrongFalsely : Prop := diskLastsRow.holds Try.pinned (OpenSpec.ofChange diskLastsWrong)

/-- 'solventlaw16.DiskReads': WHATEVER THE INPUT: true; the input reads as it did. -/
def diskReadsSpec : ChangeSpec := { name := "diskReads", fn := fun _ => fun
  | [d1, d2] => { results := [.lit (.bool true)], args := [d1, d2] }
  | _ => none }
def diskReadsRow : OpenClaim := { program := "ytmbkmfpnjpkakaa", sum := "124003d6988e0fdab364c629c7348872dd266156517f7e92a7b000ff4b0e5250", func := "solvent/solventlaw16.DiskReads", spec := "diskReads", inPlace := ["internal/abi.NoEscape", "internal/bytealg.MakeNoZero"], unfollowed := true, recurses := true, apart := false }
def DiskReadsSaid : Prop := diskReadsRow.holds Try.pinned (OpenSpec.ofChange diskReadsSpec)

/-- ITS FALSE NEIGHBOUR: 'it returns false'. Refute it at one input. -/
def diskReadsWrong : ChangeSpec := { name := "diskReads", fn := fun _ => fun
  | [d1, d2] => { results := [.lit (.bool false)], args := [d1, d2] }
  | _ => none }
def DiskReadsWrongFalsely : Prop := diskReadsRow.holds Try.pinned (OpenSpec.ofChange diskReadsWrong)

/-- 'solventlaw16.DiskFaults': WHATEVER THE INPUT: true; the input reads as it did. -/
def diskFaultsSpec : ChangeSpec := { name := "diskFaults", fn := fun _ => fun
  | [d1, d2, d3, d4] => { results := [.lit (.bool true)], args := [d1, d2, d3, d4] }
  | _ => none }
def diskFaultsRow : OpenClaim := { program := "ytmbkmfpnjpkakaa", sum := "124003d6988e0fdab364c629c7348872dd266156517f7e92a7b000ff4b0e5250", func := "solvent/solventlaw16.DiskFaults", spec := "diskFaults", inPlace := ["internal/abi.NoEscape", "internal/bytealg.MakeNoZero"], unfollowed := true, recurses := true, apart := false }
def DiskFaultsSaid : Prop := diskFaultsRow.holds Try.pinned (OpenSpec.ofChange diskFaultsSpec)

/-- ITS FALSE NEIGHBOUR: 'it returns false'. Refute it at one input. -/
def diskFaultsWrong : ChangeSpec := { name := "diskFaults", fn := fun _ => fun
  | [d1, d2, d3, d4] => { results := [.lit (.bool false)], args := [d1, d2, d3, d4] }
  | _ => none }
def DiskFaultsWrongFalsely : Prop := diskFaultsRow.holds Try.pinned (OpenSpec.ofChange diskFaultsWrong)

/-- 'solventlaw16.DiskRots': WHATEVER THE INPUT: true; the input reads as it did. -/
def diskRotsSpec : ChangeSpec := { name := "diskRots", fn := fun _ => fun
  | [d1, d2, d3, d4] => { results := [.lit (.bool true)], args := [d1, d2, d3, d4] }
  | _ => none }
def diskRotsRow : OpenClaim := { program := "ytmbkmfpnjpkakaa", sum := "124003d6988e0fdab364c629c7348872dd266156517f7e92a7b000ff4b0e5250", func := "solvent/solventlaw16.DiskRots", spec := "diskRots", inPlace := ["internal/abi.NoEscape", "internal/bytealg.MakeNoZero"], unfollowed := true, recurses := true, apart := false }
def DiskRotsSaid : Prop := diskRotsRow.holds Try.pinned (OpenSpec.ofChange diskRotsSpec)

/-- ITS FALSE NEIGHBOUR: 'it returns false'. Refute it at one input. -/
def diskRotsWrong : ChangeSpec := { name := "diskRots", fn := fun _ => fun
  | [d1, d2, d3, d4] => { results := [.lit (.bool false)], args := [d1, d2, d3, d4] }
  | _ => none }
def DiskRotsWrongFalsely : Prop := diskRotsRow.holds Try.pinned (OpenSpec.ofChange diskRotsWrong)

/-- 'solventlaw16.DiskClones': WHATEVER THE INPUT: true; the input reads as it did. -/
def diskClonesSpec : ChangeSpec := { name := "diskClones", fn := fun _ => fun
  | [d1, d2, d3] => { results := [.lit (.bool true)], args := [d1, d2, d3] }
  | _ => none }
def diskClonesRow : OpenClaim := { program := "ytmbkmfpnjpkakaa", sum := "124003d6988e0fdab364c629c7348872dd266156517f7e92a7b000ff4b0e5250", func := "solvent/solventlaw16.DiskClones", spec := "diskClones", inPlace := ["internal/abi.NoEscape", "internal/bytealg.MakeNoZero", "maps.clone"], unfollowed := true, recurses := true, apart := false }
def DiskClonesSaid : Prop := diskClonesRow.holds Try.pinned (OpenSpec.ofChange diskClonesSpec)

/-- ITS FALSE NEIGHBOUR: 'it returns false'. Refute it at one input. -/
def diskClonesWrong : ChangeSpec := { name := "diskClones", fn := fun _ => fun
  | [d1, d2, d3] => { results := [.lit (.bool false)], args := [d1, d2, d3] }
  | _ => none }
def DiskClonesWrongFalsely : Prop := diskClonesRow.holds Try.pinned (OpenSpec.ofChange diskClonesWrong)

/-- 'solventlaw17.ShelfFuseCounts': WHATEVER THE INPUT: true; the input reads as it did. -/
def shelfFuseCountsSpec : ChangeSpec := { name := "shelfFuseCounts", fn := fun _ => fun
  | [d1, d2] => { results := [.lit (.bool true)], args := [d1, d2] }
  | _ => none }
def shelfFuseCountsRow : OpenClaim := { program := "ytmbkmfpnjpkakaa", sum := "124003d6988e0fdab364c629c7348872dd266156517f7e92a7b000ff4b0e5250", func := "solvent/solventlaw17.ShelfFuseCounts", spec := "shelfFuseCounts", inPlace := ["maps.clone"], unfollowed := true, recurses := true, apart := false }
def ShelfFuseCountsSaid : Prop := shelfFuseCountsRow.holds Try.pinned (OpenSpec.ofChange shelfFuseCountsSpec)

/-- ITS FALSE NEIGHBOUR: 'it returns false'. Refute it at one input. -/
def shelfFuseCountsWrong : ChangeSpec := { name := "shelfFuseCounts", fn := fun _ => fun
  | [d1, d2] => { results := [.lit (.bool false)], args := [d1, d2] }
  | _ => none }
def ShelfFuseCountsWrongFalsely : Prop := shelfFuseCountsRow.holds Try.pinned (OpenSpec.ofChange shelfFuseCountsWrong)

/-- 'solventlaw17.ShelfTornWrites': WHATEVER THE INPUT: true; the input reads as it did. -/
def shelfTornWritesSpec : ChangeSpec := { name := "shelfTornWrites", fn := fun _ => fun
  | [d] => { results := [.lit (.bool true)], args := [d] }
  | _ => none }
def shelfTornWritesRow : OpenClaim := { program := "ytmbkmfpnjpkakaa", sum := "124003d6988e0fdab364c629c7348872dd266156517f7e92a7b000ff4b0e5250", func := "solvent/solventlaw17.ShelfTornWrites", spec := "shelfTornWrites", inPlace := ["maps.clone"], unfollowed := true, recurses := true, apart := false }
def ShelfTornWritesSaid : Prop := shelfTornWritesRow.holds Try.pinned (OpenSpec.ofChange shelfTornWritesSpec)

/-- ITS FALSE NEIGHBOUR: 'it returns false'. Refute it at one input. -/
def shelfTornWritesWrong : ChangeSpec := { name := "shelfTornWrites", fn := fun _ => fun
  | [d] => { results := [.lit (.bool false)], args := [d] }
  | _ => none }
def ShelfTornWritesWrongFalsely : Prop := shelfTornWritesRow.holds Try.pinned (OpenSpec.ofChange shelfTornWritesWrong)

/-- 'solventlaw17.ShelfPlacesAreDistinct': WHATEVER THE INPUT: true; the input reads as it did. -/
def shelfPlacesAreDistinctSpec : ChangeSpec := { name := "shelfPlacesAreDistinct", fn := fun _ => fun
  | [d1, d2, d3] => { results := [.lit (.bool true)], args := [d1, d2, d3] }
  | _ => none }
def shelfPlacesAreDistinctRow : OpenClaim := { program := "ytmbkmfpnjpkakaa", sum := "124003d6988e0fdab364c629c7348872dd266156517f7e92a7b000ff4b0e5250", func := "solvent/solventlaw17.ShelfPlacesAreDistinct", spec := "shelfPlacesAreDistinct", inPlace := ["maps.clone"], unfollowed := true, recurses := true, apart := false }
def ShelfPlacesAreDistinctSaid : Prop := shelfPlacesAreDistinctRow.holds Try.pinned (OpenSpec.ofChange shelfPlacesAreDistinctSpec)

/-- ITS FALSE NEIGHBOUR: 'it returns false'. Refute it at one input. -/
def shelfPlacesAreDistinctWrong : ChangeSpec := { name := "shelfPlacesAreDistinct", fn := fun _ => fun
  | [d1, d2, d3] => { results := [.lit (.bool false)], args := [d1, d2, d3] }
  | _ => none }
def ShelfPlacesAreDistinctWrongFalsely : Prop := shelfPlacesAreDistinctRow.holds Try.pinned (OpenSpec.ofChange shelfPlacesAreDistinctWrong)

/-- 'solventlaw17.ShelfFlushedSurvives': WHATEVER THE INPUT: true; the input reads as it did. -/
def shelfFlushedSurvivesSpec : ChangeSpec := { name := "shelfFlushedSurvives", fn := fun _ => fun
  | [d1, d2, d3] => { results := [.lit (.bool true)], args := [d1, d2, d3] }
  | _ => none }
def shelfFlushedSurvivesRow : OpenClaim := { program := "ytmbkmfpnjpkakaa", sum := "124003d6988e0fdab364c629c7348872dd266156517f7e92a7b000ff4b0e5250", func := "solvent/solventlaw17.ShelfFlushedSurvives", spec := "shelfFlushedSurvives", inPlace := ["maps.clone"], unfollowed := true, recurses := true, apart := false }
def ShelfFlushedSurvivesSaid : Prop := shelfFlushedSurvivesRow.holds Try.pinned (OpenSpec.ofChange shelfFlushedSurvivesSpec)

/-- ITS FALSE NEIGHBOUR: 'it returns false'. Refute it at one input. -/
def shelfFlushedSurvivesWrong : ChangeSpec := { name := "shelfFlushedSurvives", fn := fun _ => fun
  | [d1, d2, d3] => { results := [.lit (.bool false)], args := [d1, d2, d3] }
  | _ => none }
def ShelfFlushedSurvivesWrongFalsely : Prop := shelfFlushedSurvivesRow.holds Try.pinned (OpenSpec.ofChange shelfFlushedSurvivesWrong)

/- THE SECOND FORM. 'bulk': how many values and letters a reading holds, each counted each time it is reached (what is shared counts as often as it is met; a slice's spare places count too). A statement '..UptoSaid' is the law's where the arguments, and the package variables that the reading takes, are together of bulk at most 1048576: NARROWER than '..Said'. Prove '..Said' where nothing that the law and all that it calls make is longer than what came in: it says more and counts as full. Else prove '..UptoSaid'. A law counts once. -/
mutual
def uptoBulk {H : Type} : DataW H → Nat
  | .lit (.string bytes) => bytes.length + 1
  | .lit _ => 1
  | .nil => 1
  | .ptr d => uptoBulk d + 1
  | .slice elems spare => uptoBulkAll elems + uptoBulkAll spare + 1
  | .agg parts => uptoBulkAll parts + 1
  | .iface _ d => uptoBulk d + 1
  | .map entries => uptoBulkEntries entries + 1
  | .held _ => 1
def uptoBulkAll {H : Type} : List (DataW H) → Nat
  | [] => 0
  | d :: r => uptoBulk d + uptoBulkAll r
def uptoBulkEntries {H : Type} : List (Lit × DataW H) → Nat
  | [] => 0
  | x :: r => uptoBulkEntry x + uptoBulkEntries r
def uptoBulkEntry {H : Type} : Lit × DataW H → Nat
  | (.string bytes, d) => bytes.length + uptoBulk d + 1
  | (_, d) => uptoBulk d + 1
 end
def uptoSmall : (H : Type) → List (DataW H) → Bool := fun _ ds => decide (uptoBulkAll ds ≤ 1048576)
def OpenSpec.upto (s : _root_.Go.ChangeSpec) : _root_.Go.OpenSpec := { _root_.Go.OpenSpec.ofChange s with cond := some uptoSmall }

/-- 'solventlaw17.ShelfNewMatchesSpec', WHERE WHAT IT READS IS OF BULK AT MOST 1048576: true; the input reads as it did. -/
def shelfNewMatchesSpecUptoRow : OpenClaim := { program := "ytmbkmfpnjpkakaa", sum := "124003d6988e0fdab364c629c7348872dd266156517f7e92a7b000ff4b0e5250", func := "solvent/solventlaw17.ShelfNewMatchesSpec", spec := "shelfNewMatchesSpec", unfollowed := true, recurses := true, apart := false, narrowed := true }
def ShelfNewMatchesSpecUptoSaid : Prop := shelfNewMatchesSpecUptoRow.holds Try.pinned (OpenSpec.upto shelfNewMatchesSpecSpec)

/-- 'solventlaw16.DiskMatchesSpec', WHERE WHAT IT READS IS OF BULK AT MOST 1048576: true; the input reads as it did. -/
def diskMatchesSpecUptoRow : OpenClaim := { program := "ytmbkmfpnjpkakaa", sum := "124003d6988e0fdab364c629c7348872dd266156517f7e92a7b000ff4b0e5250", func := "solvent/solventlaw16.DiskMatchesSpec", spec := "diskMatchesSpec", inPlace := ["internal/abi.NoEscape", "internal/bytealg.MakeNoZero"], unfollowed := true, recurses := true, apart := false, narrowed := true }
def DiskMatchesSpecUptoSaid : Prop := diskMatchesSpecUptoRow.holds Try.pinned (OpenSpec.upto diskMatchesSpecSpec)

/-- 'solventlaw16.DiskSizes', WHERE WHAT IT READS IS OF BULK AT MOST 1048576: true; the input reads as it did. -/
def diskSizesUptoRow : OpenClaim := { program := "ytmbkmfpnjpkakaa", sum := "124003d6988e0fdab364c629c7348872dd266156517f7e92a7b000ff4b0e5250", func := "solvent/solventlaw16.DiskSizes", spec := "diskSizes", inPlace := ["internal/abi.NoEscape", "internal/bytealg.MakeNoZero"], unfollowed := true, recurses := true, apart := false, narrowed := true }
def DiskSizesUptoSaid : Prop := diskSizesUptoRow.holds Try.pinned (OpenSpec.upto diskSizesSpec)

/-- 'solventlaw16.DiskLasts', WHERE WHAT IT READS IS OF BULK AT MOST 1048576: true; the input reads as it did. -/
def diskLastsUptoRow : OpenClaim := { program := "ytmbkmfpnjpkakaa", sum := "124003d6988e0fdab364c629c7348872dd266156517f7e92a7b000ff4b0e5250", func := "solvent/solventlaw16.DiskLasts", spec := "diskLasts", inPlace := ["internal/abi.NoEscape", "internal/bytealg.MakeNoZero"], unfollowed := true, recurses := true, apart := false, narrowed := true }
def DiskLastsUptoSaid : Prop := diskLastsUptoRow.holds Try.pinned (OpenSpec.upto diskLastsSpec)

/-- 'solventlaw16.DiskReads', WHERE WHAT IT READS IS OF BULK AT MOST 1048576: true; the input reads as it did. -/
def diskReadsUptoRow : OpenClaim := { program := "ytmbkmfpnjpkakaa", sum := "124003d6988e0fdab364c629c7348872dd266156517f7e92a7b000ff4b0e5250", func := "solvent/solventlaw16.DiskReads", spec := "diskReads", inPlace := ["internal/abi.NoEscape", "internal/bytealg.MakeNoZero"], unfollowed := true, recurses := true, apart := false, narrowed := true }
def DiskReadsUptoSaid : Prop := diskReadsUptoRow.holds Try.pinned (OpenSpec.upto diskReadsSpec)

/-- 'solventlaw16.DiskFaults', WHERE WHAT IT READS IS OF BULK AT MOST 1048576: true; the input reads as it did. -/
def diskFaultsUptoRow : OpenClaim := { program := "ytmbkmfpnjpkakaa", sum := "124003d6988e0fdab364c629c7348872dd266156517f7e92a7b000ff4b0e5250", func := "solvent/solventlaw16.DiskFaults", spec := "diskFaults", inPlace := ["internal/abi.NoEscape", "internal/bytealg.MakeNoZero"], unfollowed := true, recurses := true, apart := false, narrowed := true }
def DiskFaultsUptoSaid : Prop := diskFaultsUptoRow.holds Try.pinned (OpenSpec.upto diskFaultsSpec)

/-- 'solventlaw16.DiskRots', WHERE WHAT IT READS IS OF BULK AT MOST 1048576: true; the input reads as it did. -/
def diskRotsUptoRow : OpenClaim := { program := "ytmbkmfpnjpkakaa", sum := "124003d6988e0fdab364c629c7348872dd266156517f7e92a7b000ff4b0e5250", func := "solvent/solventlaw16.DiskRots", spec := "diskRots", inPlace := ["internal/abi.NoEscape", "internal/bytealg.MakeNoZero"], unfollowed := true, recurses := true, apart := false, narrowed := true }
def DiskRotsUptoSaid : Prop := diskRotsUptoRow.holds Try.pinned (OpenSpec.upto diskRotsSpec)

/-- 'solventlaw16.DiskClones', WHERE WHAT IT READS IS OF BULK AT MOST 1048576: true; the input reads as it did. -/
def diskClonesUptoRow : OpenClaim := { program := "ytmbkmfpnjpkakaa", sum := "124003d6988e0fdab364c629c7348872dd266156517f7e92a7b000ff4b0e5250", func := "solvent/solventlaw16.DiskClones", spec := "diskClones", inPlace := ["internal/abi.NoEscape", "internal/bytealg.MakeNoZero", "maps.clone"], unfollowed := true, recurses := true, apart := false, narrowed := true }
def DiskClonesUptoSaid : Prop := diskClonesUptoRow.holds Try.pinned (OpenSpec.upto diskClonesSpec)

/-- 'solventlaw17.ShelfFuseCounts', WHERE WHAT IT READS IS OF BULK AT MOST 1048576: true; the input reads as it did. -/
def shelfFuseCountsUptoRow : OpenClaim := { program := "ytmbkmfpnjpkakaa", sum := "124003d6988e0fdab364c629c7348872dd266156517f7e92a7b000ff4b0e5250", func := "solvent/solventlaw17.ShelfFuseCounts", spec := "shelfFuseCounts", inPlace := ["maps.clone"], unfollowed := true, recurses := true, apart := false, narrowed := true }
def ShelfFuseCountsUptoSaid : Prop := shelfFuseCountsUptoRow.holds Try.pinned (OpenSpec.upto shelfFuseCountsSpec)

/-- 'solventlaw17.ShelfTornWrites', WHERE WHAT IT READS IS OF BULK AT MOST 1048576: true; the input reads as it did. -/
def shelfTornWritesUptoRow : OpenClaim := { program := "ytmbkmfpnjpkakaa", sum := "124003d6988e0fdab364c629c7348872dd266156517f7e92a7b000ff4b0e5250", func := "solvent/solventlaw17.ShelfTornWrites", spec := "shelfTornWrites", inPlace := ["maps.clone"], unfollowed := true, recurses := true, apart := false, narrowed := true }
def ShelfTornWritesUptoSaid : Prop := shelfTornWritesUptoRow.holds Try.pinned (OpenSpec.upto shelfTornWritesSpec)

/-- 'solventlaw17.ShelfPlacesAreDistinct', WHERE WHAT IT READS IS OF BULK AT MOST 1048576: true; the input reads as it did. -/
def shelfPlacesAreDistinctUptoRow : OpenClaim := { program := "ytmbkmfpnjpkakaa", sum := "124003d6988e0fdab364c629c7348872dd266156517f7e92a7b000ff4b0e5250", func := "solvent/solventlaw17.ShelfPlacesAreDistinct", spec := "shelfPlacesAreDistinct", inPlace := ["maps.clone"], unfollowed := true, recurses := true, apart := false, narrowed := true }
def ShelfPlacesAreDistinctUptoSaid : Prop := shelfPlacesAreDistinctUptoRow.holds Try.pinned (OpenSpec.upto shelfPlacesAreDistinctSpec)

/-- 'solventlaw17.ShelfFlushedSurvives', WHERE WHAT IT READS IS OF BULK AT MOST 1048576: true; the input reads as it did. -/
def shelfFlushedSurvivesUptoRow : OpenClaim := { program := "ytmbkmfpnjpkakaa", sum := "124003d6988e0fdab364c629c7348872dd266156517f7e92a7b000ff4b0e5250", func := "solvent/solventlaw17.ShelfFlushedSurvives", spec := "shelfFlushedSurvives", inPlace := ["maps.clone"], unfollowed := true, recurses := true, apart := false, narrowed := true }
def ShelfFlushedSurvivesUptoSaid : Prop := shelfFlushedSurvivesUptoRow.holds Try.pinned (OpenSpec.upto shelfFlushedSurvivesSpec)

end Rows
end Go.Proofs.Ytmbkmfpnjpkakaa
