/-
  No cell of these rows narrows 'for every input' (looked for: loops, veiled, ifaces, maps, wideKeys, modest, calm, conditions, laid).
  DERIVED. THE GIVEN ROWS OF THIS SEAT. 8 by the template 'for every input the law returns true; each argument reads behind the call as it read before'; 0 by the template 'total and deterministic' (their statements: YtigmgeaimcglhaaTotals.lean).
  GIVEN WITH THE SEED: the statements are not yours to turn. If you find one false, say at which input.
  Laid BY PROGRAM, IN A SANDBOX (cutbox-rows.mjs): the forced cells as the released guide's own fill.sh prints them over the translation 13e47072bc30fcd5… (all of the seat's roots in one cut). By AI agents, Wed Nov 11 2026. No macro, syntax, notation, axiom, sorry.
-/
import Derived.Test.YtigmgeaimcglhaaChecked
import GoSem.Claim
import GoSem.ClaimJoined
import GoSem.ClaimMapViews
import Derived.JoinedTies
import Derived.KernelRfl
namespace Go.Proofs.Ytigmgeaimcglhaa
/- THE CELL 'sum', in the pinned program and in every row, IS THE sha256 OF THE DUMP (.gsa) THAT YtigmgeaimcglhaaProg.lean LOADS. Nothing in Lean hashes anything: it is a label: what it is worth is what the hold of that sum in a sandbox is worth. -/
noncomputable def Try.pinned : Pinned := { name := "ytigmgeaimcglhaa", sum := "13e47072bc30fcd5881b9a026e6bbc0dbb7685d6cf08f20d29965449bf5edda5", checked := Try.checked }
namespace Rows
def none {H : Type} : Left H := { results := [], args := [] }

/-- 'lanelaw4.SnapReaders': WHATEVER THE INPUT: true; the input reads as it did. -/
def snapReadersSpec : ChangeSpec := { name := "snapReaders", fn := fun _ => fun
  | [d] => { results := [.lit (.bool true)], args := [d] }
  | _ => none }
def snapReadersRow : OpenClaim := { program := "ytigmgeaimcglhaa", sum := "13e47072bc30fcd5881b9a026e6bbc0dbb7685d6cf08f20d29965449bf5edda5", func := "locklane/lanelaw4.SnapReaders", spec := "snapReaders", unfollowed := true, recurses := true, apart := false }
def SnapReadersSaid : Prop := snapReadersRow.holds Try.pinned (OpenSpec.ofChange snapReadersSpec)

/-- ITS FALSE NEIGHBOUR: 'it returns false'. Refute it at one input. -/
def snapReadersWrong : ChangeSpec := { name := "snapReaders", fn := fun _ => fun
  | [d] => { results := [.lit (.bool false)], args := [d] }
  | _ => none }
def SnapReadersWrongFalsely : Prop := snapReadersRow.holds Try.pinned (OpenSpec.ofChange snapReadersWrong)

/-- 'lanelaw2.ValidSerial': WHATEVER THE INPUT: true; the input reads as it did. -/
def validSerialSpec : ChangeSpec := { name := "validSerial", fn := fun _ => fun
  | [d] => { results := [.lit (.bool true)], args := [d] }
  | _ => none }
def validSerialRow : OpenClaim := { program := "ytigmgeaimcglhaa", sum := "13e47072bc30fcd5881b9a026e6bbc0dbb7685d6cf08f20d29965449bf5edda5", func := "locklane/lanelaw2.ValidSerial", spec := "validSerial", unfollowed := true, recurses := true, apart := false }
def ValidSerialSaid : Prop := validSerialRow.holds Try.pinned (OpenSpec.ofChange validSerialSpec)

/-- ITS FALSE NEIGHBOUR: 'it returns false'. Refute it at one input. -/
def validSerialWrong : ChangeSpec := { name := "validSerial", fn := fun _ => fun
  | [d] => { results := [.lit (.bool false)], args := [d] }
  | _ => none }
def ValidSerialWrongFalsely : Prop := validSerialRow.holds Try.pinned (OpenSpec.ofChange validSerialWrong)

/-- 'lanelaw2.SnapSame': WHATEVER THE INPUT: true; the input reads as it did. -/
def snapSameSpec : ChangeSpec := { name := "snapSame", fn := fun _ => fun
  | [d] => { results := [.lit (.bool true)], args := [d] }
  | _ => none }
def snapSameRow : OpenClaim := { program := "ytigmgeaimcglhaa", sum := "13e47072bc30fcd5881b9a026e6bbc0dbb7685d6cf08f20d29965449bf5edda5", func := "locklane/lanelaw2.SnapSame", spec := "snapSame", unfollowed := true, recurses := true, apart := false }
def SnapSameSaid : Prop := snapSameRow.holds Try.pinned (OpenSpec.ofChange snapSameSpec)

/-- ITS FALSE NEIGHBOUR: 'it returns false'. Refute it at one input. -/
def snapSameWrong : ChangeSpec := { name := "snapSame", fn := fun _ => fun
  | [d] => { results := [.lit (.bool false)], args := [d] }
  | _ => none }
def SnapSameWrongFalsely : Prop := snapSameRow.holds Try.pinned (OpenSpec.ofChange snapSameWrong)

/-- 'lanelaw4.DangerOne': WHATEVER THE INPUT: true; the input reads as it did. -/
def dangerOneSpec : ChangeSpec := { name := "dangerOne", fn := fun _ => fun
  | [d1, d2] => { results := [.lit (.bool true)], args := [d1, d2] }
  | _ => none }
def dangerOneRow : OpenClaim := { program := "ytigmgeaimcglhaa", sum := "13e47072bc30fcd5881b9a026e6bbc0dbb7685d6cf08f20d29965449bf5edda5", func := "locklane/lanelaw4.DangerOne", spec := "dangerOne", unfollowed := true, recurses := true, apart := false }
def DangerOneSaid : Prop := dangerOneRow.holds Try.pinned (OpenSpec.ofChange dangerOneSpec)

/-- ITS FALSE NEIGHBOUR: 'it returns false'. Refute it at one input. -/
def dangerOneWrong : ChangeSpec := { name := "dangerOne", fn := fun _ => fun
  | [d1, d2] => { results := [.lit (.bool false)], args := [d1, d2] }
  | _ => none }
def DangerOneWrongFalsely : Prop := dangerOneRow.holds Try.pinned (OpenSpec.ofChange dangerOneWrong)

/-- 'lanelaw2.DangerSerial': WHATEVER THE INPUT: true; the input reads as it did. -/
def dangerSerialSpec : ChangeSpec := { name := "dangerSerial", fn := fun _ => fun
  | [d] => { results := [.lit (.bool true)], args := [d] }
  | _ => none }
def dangerSerialRow : OpenClaim := { program := "ytigmgeaimcglhaa", sum := "13e47072bc30fcd5881b9a026e6bbc0dbb7685d6cf08f20d29965449bf5edda5", func := "locklane/lanelaw2.DangerSerial", spec := "dangerSerial", unfollowed := true, recurses := true, apart := false }
def DangerSerialSaid : Prop := dangerSerialRow.holds Try.pinned (OpenSpec.ofChange dangerSerialSpec)

/-- ITS FALSE NEIGHBOUR: 'it returns false'. Refute it at one input. -/
def dangerSerialWrong : ChangeSpec := { name := "dangerSerial", fn := fun _ => fun
  | [d] => { results := [.lit (.bool false)], args := [d] }
  | _ => none }
def DangerSerialWrongFalsely : Prop := dangerSerialRow.holds Try.pinned (OpenSpec.ofChange dangerSerialWrong)

/-- 'lanelaw2.VersionsSerial': WHATEVER THE INPUT: true; the input reads as it did. -/
def versionsSerialSpec : ChangeSpec := { name := "versionsSerial", fn := fun _ => fun
  | [d] => { results := [.lit (.bool true)], args := [d] }
  | _ => none }
def versionsSerialRow : OpenClaim := { program := "ytigmgeaimcglhaa", sum := "13e47072bc30fcd5881b9a026e6bbc0dbb7685d6cf08f20d29965449bf5edda5", func := "locklane/lanelaw2.VersionsSerial", spec := "versionsSerial", unfollowed := true, recurses := true, apart := false }
def VersionsSerialSaid : Prop := versionsSerialRow.holds Try.pinned (OpenSpec.ofChange versionsSerialSpec)

/-- ITS FALSE NEIGHBOUR: 'it returns false'. Refute it at one input. -/
def versionsSerialWrong : ChangeSpec := { name := "versionsSerial", fn := fun _ => fun
  | [d] => { results := [.lit (.bool false)], args := [d] }
  | _ => none }
def VersionsSerialWrongFalsely : Prop := versionsSerialRow.holds Try.pinned (OpenSpec.ofChange versionsSerialWrong)

/-- 'lanelaw4.VersionsRising': WHATEVER THE INPUT: true; the input reads as it did. -/
def versionsRisingSpec : ChangeSpec := { name := "versionsRising", fn := fun _ => fun
  | [d1, d2] => { results := [.lit (.bool true)], args := [d1, d2] }
  | _ => none }
def versionsRisingRow : OpenClaim := { program := "ytigmgeaimcglhaa", sum := "13e47072bc30fcd5881b9a026e6bbc0dbb7685d6cf08f20d29965449bf5edda5", func := "locklane/lanelaw4.VersionsRising", spec := "versionsRising", unfollowed := true, recurses := true, apart := false }
def VersionsRisingSaid : Prop := versionsRisingRow.holds Try.pinned (OpenSpec.ofChange versionsRisingSpec)

/-- ITS FALSE NEIGHBOUR: 'it returns false'. Refute it at one input. -/
def versionsRisingWrong : ChangeSpec := { name := "versionsRising", fn := fun _ => fun
  | [d1, d2] => { results := [.lit (.bool false)], args := [d1, d2] }
  | _ => none }
def VersionsRisingWrongFalsely : Prop := versionsRisingRow.holds Try.pinned (OpenSpec.ofChange versionsRisingWrong)

/-- 'lanelaw4.RunsSerial': WHATEVER THE INPUT: true; the input reads as it did. -/
def runsSerialSpec : ChangeSpec := { name := "runsSerial", fn := fun _ => fun
  | [d1, d2, d3] => { results := [.lit (.bool true)], args := [d1, d2, d3] }
  | _ => none }
def runsSerialRow : OpenClaim := { program := "ytigmgeaimcglhaa", sum := "13e47072bc30fcd5881b9a026e6bbc0dbb7685d6cf08f20d29965449bf5edda5", func := "locklane/lanelaw4.RunsSerial", spec := "runsSerial", unfollowed := true, recurses := true, apart := false }
def RunsSerialSaid : Prop := runsSerialRow.holds Try.pinned (OpenSpec.ofChange runsSerialSpec)

/-- ITS FALSE NEIGHBOUR: 'it returns false'. Refute it at one input. -/
def runsSerialWrong : ChangeSpec := { name := "runsSerial", fn := fun _ => fun
  | [d1, d2, d3] => { results := [.lit (.bool false)], args := [d1, d2, d3] }
  | _ => none }
def RunsSerialWrongFalsely : Prop := runsSerialRow.holds Try.pinned (OpenSpec.ofChange runsSerialWrong)

/- THE SECOND FORM. 'bulk': how many values and letters a reading holds, each counted each time it is reached (what is shared counts as often as it is met; a slice's spare places count too). A statement '..UptoSaid' is the law's where the arguments, and the package variables that the reading takes, are together of bulk at most 1048576: NARROWER than '..Said'. Prove '..Said' where nothing that the law and all that it calls make is longer than what came in: it says more and counts as full. Else prove '..UptoSaid'. A law counts once. -/
mutual
def uptoBulk {H : Type} : DataW H → Nat
  | .lit (.string bytes) => bytes.length + 1
  | .lit _ => 1
  | .nil => 1
  | .ptr d => uptoBulk d + 1
  | .slice elems spare => uptoBulkAll elems + uptoBulkAll spare + 1
  | .agg parts => uptoBulkAll parts + 1
  | .iface _ d => uptoBulk d + 1
  | .map entries => uptoBulkEntries entries + 1
  | .held _ => 1
def uptoBulkAll {H : Type} : List (DataW H) → Nat
  | [] => 0
  | d :: r => uptoBulk d + uptoBulkAll r
def uptoBulkEntries {H : Type} : List (Lit × DataW H) → Nat
  | [] => 0
  | x :: r => uptoBulkEntry x + uptoBulkEntries r
def uptoBulkEntry {H : Type} : Lit × DataW H → Nat
  | (.string bytes, d) => bytes.length + uptoBulk d + 1
  | (_, d) => uptoBulk d + 1
 end
def uptoSmall : (H : Type) → List (DataW H) → Bool := fun _ ds => decide (uptoBulkAll ds ≤ 1048576)
def OpenSpec.upto (s : _root_.Go.ChangeSpec) : _root_.Go.OpenSpec := { _root_.Go.OpenSpec.ofChange s with cond := some uptoSmall }

/-- 'lanelaw4.SnapReaders', WHERE WHAT IT READS IS OF BULK AT MOST 1048576: true; the input reads as it did. -/
def snapReadersUptoRow : OpenClaim := { program := "ytigmgeaimcglhaa", sum := "13e47072bc30fcd5881b9a026e6bbc0dbb7685d6cf08f20d29965449bf5edda5", func := "locklane/lanelaw4.SnapReaders", spec := "snapReaders", unfollowed := true, recurses := true, apart := false, narrowed := true }
def SnapReadersUptoSaid : Prop := snapReadersUptoRow.holds Try.pinned (OpenSpec.upto snapReadersSpec)

/-- 'lanelaw2.ValidSerial', WHERE WHAT IT READS IS OF BULK AT MOST 1048576: true; the input reads as it did. -/
def validSerialUptoRow : OpenClaim := { program := "ytigmgeaimcglhaa", sum := "13e47072bc30fcd5881b9a026e6bbc0dbb7685d6cf08f20d29965449bf5edda5", func := "locklane/lanelaw2.ValidSerial", spec := "validSerial", unfollowed := true, recurses := true, apart := false, narrowed := true }
def ValidSerialUptoSaid : Prop := validSerialUptoRow.holds Try.pinned (OpenSpec.upto validSerialSpec)

/-- 'lanelaw2.SnapSame', WHERE WHAT IT READS IS OF BULK AT MOST 1048576: true; the input reads as it did. -/
def snapSameUptoRow : OpenClaim := { program := "ytigmgeaimcglhaa", sum := "13e47072bc30fcd5881b9a026e6bbc0dbb7685d6cf08f20d29965449bf5edda5", func := "locklane/lanelaw2.SnapSame", spec := "snapSame", unfollowed := true, recurses := true, apart := false, narrowed := true }
def SnapSameUptoSaid : Prop := snapSameUptoRow.holds Try.pinned (OpenSpec.upto snapSameSpec)

/-- 'lanelaw4.DangerOne', WHERE WHAT IT READS IS OF BULK AT MOST 1048576: true; the input reads as it did. -/
def dangerOneUptoRow : OpenClaim := { program := "ytigmgeaimcglhaa", sum := "13e47072bc30fcd5881b9a026e6bbc0dbb7685d6cf08f20d29965449bf5edda5", func := "locklane/lanelaw4.DangerOne", spec := "dangerOne", unfollowed := true, recurses := true, apart := false, narrowed := true }
def DangerOneUptoSaid : Prop := dangerOneUptoRow.holds Try.pinned (OpenSpec.upto dangerOneSpec)

/-- 'lanelaw2.DangerSerial', WHERE WHAT IT READS IS OF BULK AT MOST 1048576: true; the input reads as it did. -/
def dangerSerialUptoRow : OpenClaim := { program := "ytigmgeaimcglhaa", sum := "13e47072bc30fcd5881b9a026e6bbc0dbb7685d6cf08f20d29965449bf5edda5", func := "locklane/lanelaw2.DangerSerial", spec := "dangerSerial", unfollowed := true, recurses := true, apart := false, narrowed := true }
def DangerSerialUptoSaid : Prop := dangerSerialUptoRow.holds Try.pinned (OpenSpec.upto dangerSerialSpec)

/-- 'lanelaw2.VersionsSerial', WHERE WHAT IT READS IS OF BULK AT MOST 1048576: true; the input reads as it did. -/
def versionsSerialUptoRow : OpenClaim := { program := "ytigmgeaimcglhaa", sum := "13e47072bc30fcd5881b9a026e6bbc0dbb7685d6cf08f20d29965449bf5edda5", func := "locklane/lanelaw2.VersionsSerial", spec := "versionsSerial", unfollowed := true, recurses := true, apart := false, narrowed := true }
def VersionsSerialUptoSaid : Prop := versionsSerialUptoRow.holds Try.pinned (OpenSpec.upto versionsSerialSpec)

/-- 'lanelaw4.VersionsRising', WHERE WHAT IT READS IS OF BULK AT MOST 1048576: true; the input reads as it did. -/
def versionsRisingUptoRow : OpenClaim := { program := "ytigmgeaimcglhaa", sum := "13e47072bc30fcd5881b9a026e6bbc0dbb7685d6cf08f20d29965449bf5edda5", func := "locklane/lanelaw4.VersionsRising", spec := "versionsRising", unfollowed := true, recurses := true, apart := false, narrowed := true }
def VersionsRisingUptoSaid : Prop := versionsRisingUptoRow.holds Try.pinned (OpenSpec.upto versionsRisingSpec)

/-- 'lanelaw4.RunsSerial', WHERE WHAT IT READS IS OF BULK AT MOST 1048576: true; the input reads as it did. -/
def runsSerialUptoRow : OpenClaim := { program := "ytigmgeaimcglhaa", sum := "13e47072bc30fcd5881b9a026e6bbc0dbb7685d6cf08f20d29965449bf5edda5", func := "locklane/lanelaw4.RunsSerial", spec := "runsSerial", unfollowed := true, recurses := true, apart := false, narrowed := true }
def RunsSerialUptoSaid : Prop := runsSerialUptoRow.holds Try.pinned (OpenSpec.upto runsSerialSpec)

end Rows
end Go.Proofs.Ytigmgeaimcglhaa
