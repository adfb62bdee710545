/-
  No cell of these rows narrows 'for every input' (looked for: loops, veiled, ifaces, maps, wideKeys, modest, calm, conditions, laid).
  DERIVED. THE GIVEN ROWS OF THIS SEAT. 13 by the template 'for every input the law returns true; each argument reads behind the call as it read before'; 0 by the template 'total and deterministic' (their statements: YtaeckfhmmckopaaTotals.lean).
  GIVEN WITH THE SEED: the statements are not yours to turn. If you find one false, say at which input.
  Laid BY PROGRAM, IN A SANDBOX (cutbox-rows.mjs): the forced cells as the released guide's own fill.sh prints them over the translation d009ba520eb4f54e… (all of the seat's roots in one cut). By AI agents, Wed Nov 11 2026. No macro, syntax, notation, axiom, sorry.
-/
import Derived.Test.YtaeckfhmmckopaaChecked
import GoSem.Claim
import GoSem.ClaimJoined
import GoSem.ClaimMapViews
import Derived.JoinedTies
import Derived.KernelRfl
namespace Go.Proofs.Ytaeckfhmmckopaa
/- THE CELL 'sum', in the pinned program and in every row, IS THE sha256 OF THE DUMP (.gsa) THAT YtaeckfhmmckopaaProg.lean LOADS. Nothing in Lean hashes anything: it is a label: what it is worth is what the hold of that sum in a sandbox is worth. -/
noncomputable def Try.pinned : Pinned := { name := "ytaeckfhmmckopaa", sum := "d009ba520eb4f54e46ccda2b9258087817636c034e40d53315a0be9df6db3864", checked := Try.checked }
namespace Rows
def none {H : Type} : Left H := { results := [], args := [] }

/-- 'lanelaw1.Names': WHATEVER THE INPUT: true; the input reads as it did. -/
def namesSpec : ChangeSpec := { name := "names", fn := fun _ => fun
  | [] => { results := [.lit (.bool true)], args := [] }
  | _ => none }
def namesRow : OpenClaim := { program := "ytaeckfhmmckopaa", sum := "d009ba520eb4f54e46ccda2b9258087817636c034e40d53315a0be9df6db3864", func := "locklane/lanelaw1.Names", spec := "names", apart := false }
def NamesSaid : Prop := namesRow.holds Try.pinned (OpenSpec.ofChange namesSpec)

/-- ITS FALSE NEIGHBOUR: 'it returns false'. Refute it at one input. -/
def namesWrong : ChangeSpec := { name := "names", fn := fun _ => fun
  | [] => { results := [.lit (.bool false)], args := [] }
  | _ => none }
def NamesWrongFalsely : Prop := namesRow.holds Try.pinned (OpenSpec.ofChange namesWrong)

/-- 'lanelaw4.StockTakes': WHATEVER THE INPUT: true; the input reads as it did. -/
def stockTakesSpec : ChangeSpec := { name := "stockTakes", fn := fun _ => fun
  | [d1, d2] => { results := [.lit (.bool true)], args := [d1, d2] }
  | _ => none }
def stockTakesRow : OpenClaim := { program := "ytaeckfhmmckopaa", sum := "d009ba520eb4f54e46ccda2b9258087817636c034e40d53315a0be9df6db3864", func := "locklane/lanelaw4.StockTakes", spec := "stockTakes", apart := false }
def StockTakesSaid : Prop := stockTakesRow.holds Try.pinned (OpenSpec.ofChange stockTakesSpec)

/-- ITS FALSE NEIGHBOUR: 'it returns false'. Refute it at one input. -/
def stockTakesWrong : ChangeSpec := { name := "stockTakes", fn := fun _ => fun
  | [d1, d2] => { results := [.lit (.bool false)], args := [d1, d2] }
  | _ => none }
def StockTakesWrongFalsely : Prop := stockTakesRow.holds Try.pinned (OpenSpec.ofChange stockTakesWrong)

/-- 'lanelaw3.StockBetween': WHATEVER THE INPUT: true; the input reads as it did. -/
def stockBetweenSpec : ChangeSpec := { name := "stockBetween", fn := fun _ => fun
  | [d1, d2] => { results := [.lit (.bool true)], args := [d1, d2] }
  | _ => none }
def stockBetweenRow : OpenClaim := { program := "ytaeckfhmmckopaa", sum := "d009ba520eb4f54e46ccda2b9258087817636c034e40d53315a0be9df6db3864", func := "locklane/lanelaw3.StockBetween", spec := "stockBetween", apart := false }
def StockBetweenSaid : Prop := stockBetweenRow.holds Try.pinned (OpenSpec.ofChange stockBetweenSpec)

/-- ITS FALSE NEIGHBOUR: 'it returns false'. Refute it at one input. -/
def stockBetweenWrong : ChangeSpec := { name := "stockBetween", fn := fun _ => fun
  | [d1, d2] => { results := [.lit (.bool false)], args := [d1, d2] }
  | _ => none }
def StockBetweenWrongFalsely : Prop := stockBetweenRow.holds Try.pinned (OpenSpec.ofChange stockBetweenWrong)

/-- 'lanelaw4.StampRising': WHATEVER THE INPUT: true; the input reads as it did. -/
def stampRisingSpec : ChangeSpec := { name := "stampRising", fn := fun _ => fun
  | [d1, d2, d3, d4] => { results := [.lit (.bool true)], args := [d1, d2, d3, d4] }
  | _ => none }
def stampRisingRow : OpenClaim := { program := "ytaeckfhmmckopaa", sum := "d009ba520eb4f54e46ccda2b9258087817636c034e40d53315a0be9df6db3864", func := "locklane/lanelaw4.StampRising", spec := "stampRising", apart := false }
def StampRisingSaid : Prop := stampRisingRow.holds Try.pinned (OpenSpec.ofChange stampRisingSpec)

/-- ITS FALSE NEIGHBOUR: 'it returns false'. Refute it at one input. -/
def stampRisingWrong : ChangeSpec := { name := "stampRising", fn := fun _ => fun
  | [d1, d2, d3, d4] => { results := [.lit (.bool false)], args := [d1, d2, d3, d4] }
  | _ => none }
def StampRisingWrongFalsely : Prop := stampRisingRow.holds Try.pinned (OpenSpec.ofChange stampRisingWrong)

/-- 'lanelaw4.PlayOne': WHATEVER THE INPUT: true; the input reads as it did. -/
def playOneSpec : ChangeSpec := { name := "playOne", fn := fun _ => fun
  | [d1, d2, d3] => { results := [.lit (.bool true)], args := [d1, d2, d3] }
  | _ => none }
def playOneRow : OpenClaim := { program := "ytaeckfhmmckopaa", sum := "d009ba520eb4f54e46ccda2b9258087817636c034e40d53315a0be9df6db3864", func := "locklane/lanelaw4.PlayOne", spec := "playOne", unfollowed := true, recurses := true, apart := false }
def PlayOneSaid : Prop := playOneRow.holds Try.pinned (OpenSpec.ofChange playOneSpec)

/-- ITS FALSE NEIGHBOUR: 'it returns false'. Refute it at one input. -/
def playOneWrong : ChangeSpec := { name := "playOne", fn := fun _ => fun
  | [d1, d2, d3] => { results := [.lit (.bool false)], args := [d1, d2, d3] }
  | _ => none }
def PlayOneWrongFalsely : Prop := playOneRow.holds Try.pinned (OpenSpec.ofChange playOneWrong)

/-- 'lanelaw4.SnapReaders': WHATEVER THE INPUT: true; the input reads as it did. -/
def snapReadersSpec : ChangeSpec := { name := "snapReaders", fn := fun _ => fun
  | [d] => { results := [.lit (.bool true)], args := [d] }
  | _ => none }
def snapReadersRow : OpenClaim := { program := "ytaeckfhmmckopaa", sum := "d009ba520eb4f54e46ccda2b9258087817636c034e40d53315a0be9df6db3864", func := "locklane/lanelaw4.SnapReaders", spec := "snapReaders", unfollowed := true, recurses := true, apart := false }
def SnapReadersSaid : Prop := snapReadersRow.holds Try.pinned (OpenSpec.ofChange snapReadersSpec)

/-- ITS FALSE NEIGHBOUR: 'it returns false'. Refute it at one input. -/
def snapReadersWrong : ChangeSpec := { name := "snapReaders", fn := fun _ => fun
  | [d] => { results := [.lit (.bool false)], args := [d] }
  | _ => none }
def SnapReadersWrongFalsely : Prop := snapReadersRow.holds Try.pinned (OpenSpec.ofChange snapReadersWrong)

/-- 'lanelaw2.ValidSerial': WHATEVER THE INPUT: true; the input reads as it did. -/
def validSerialSpec : ChangeSpec := { name := "validSerial", fn := fun _ => fun
  | [d] => { results := [.lit (.bool true)], args := [d] }
  | _ => none }
def validSerialRow : OpenClaim := { program := "ytaeckfhmmckopaa", sum := "d009ba520eb4f54e46ccda2b9258087817636c034e40d53315a0be9df6db3864", func := "locklane/lanelaw2.ValidSerial", spec := "validSerial", unfollowed := true, recurses := true, apart := false }
def ValidSerialSaid : Prop := validSerialRow.holds Try.pinned (OpenSpec.ofChange validSerialSpec)

/-- ITS FALSE NEIGHBOUR: 'it returns false'. Refute it at one input. -/
def validSerialWrong : ChangeSpec := { name := "validSerial", fn := fun _ => fun
  | [d] => { results := [.lit (.bool false)], args := [d] }
  | _ => none }
def ValidSerialWrongFalsely : Prop := validSerialRow.holds Try.pinned (OpenSpec.ofChange validSerialWrong)

/-- 'lanelaw4.FacesPrefix': WHATEVER THE INPUT: true; the input reads as it did. -/
def facesPrefixSpec : ChangeSpec := { name := "facesPrefix", fn := fun _ => fun
  | [d1, d2] => { results := [.lit (.bool true)], args := [d1, d2] }
  | _ => none }
def facesPrefixRow : OpenClaim := { program := "ytaeckfhmmckopaa", sum := "d009ba520eb4f54e46ccda2b9258087817636c034e40d53315a0be9df6db3864", func := "locklane/lanelaw4.FacesPrefix", spec := "facesPrefix", unfollowed := true, recurses := true, apart := false }
def FacesPrefixSaid : Prop := facesPrefixRow.holds Try.pinned (OpenSpec.ofChange facesPrefixSpec)

/-- ITS FALSE NEIGHBOUR: 'it returns false'. Refute it at one input. -/
def facesPrefixWrong : ChangeSpec := { name := "facesPrefix", fn := fun _ => fun
  | [d1, d2] => { results := [.lit (.bool false)], args := [d1, d2] }
  | _ => none }
def FacesPrefixWrongFalsely : Prop := facesPrefixRow.holds Try.pinned (OpenSpec.ofChange facesPrefixWrong)

/-- 'lanelaw1.PlayDone': WHATEVER THE INPUT: true; the input reads as it did. -/
def playDoneSpec : ChangeSpec := { name := "playDone", fn := fun _ => fun
  | [d] => { results := [.lit (.bool true)], args := [d] }
  | _ => none }
def playDoneRow : OpenClaim := { program := "ytaeckfhmmckopaa", sum := "d009ba520eb4f54e46ccda2b9258087817636c034e40d53315a0be9df6db3864", func := "locklane/lanelaw1.PlayDone", spec := "playDone", unfollowed := true, recurses := true, apart := false }
def PlayDoneSaid : Prop := playDoneRow.holds Try.pinned (OpenSpec.ofChange playDoneSpec)

/-- ITS FALSE NEIGHBOUR: 'it returns false'. Refute it at one input. -/
def playDoneWrong : ChangeSpec := { name := "playDone", fn := fun _ => fun
  | [d] => { results := [.lit (.bool false)], args := [d] }
  | _ => none }
def PlayDoneWrongFalsely : Prop := playDoneRow.holds Try.pinned (OpenSpec.ofChange playDoneWrong)

/-- 'lanelaw4.LocksTogether': WHATEVER THE INPUT: true; the input reads as it did. -/
def locksTogetherSpec : ChangeSpec := { name := "locksTogether", fn := fun _ => fun
  | [d1, d2] => { results := [.lit (.bool true)], args := [d1, d2] }
  | _ => none }
def locksTogetherRow : OpenClaim := { program := "ytaeckfhmmckopaa", sum := "d009ba520eb4f54e46ccda2b9258087817636c034e40d53315a0be9df6db3864", func := "locklane/lanelaw4.LocksTogether", spec := "locksTogether", unfollowed := true, recurses := true, apart := false }
def LocksTogetherSaid : Prop := locksTogetherRow.holds Try.pinned (OpenSpec.ofChange locksTogetherSpec)

/-- ITS FALSE NEIGHBOUR: 'it returns false'. Refute it at one input. -/
def locksTogetherWrong : ChangeSpec := { name := "locksTogether", fn := fun _ => fun
  | [d1, d2] => { results := [.lit (.bool false)], args := [d1, d2] }
  | _ => none }
def LocksTogetherWrongFalsely : Prop := locksTogetherRow.holds Try.pinned (OpenSpec.ofChange locksTogetherWrong)

/-- 'lanelaw1.LocksHold': WHATEVER THE INPUT: true; the input reads as it did. -/
def locksHoldSpec : ChangeSpec := { name := "locksHold", fn := fun _ => fun
  | [d1, d2] => { results := [.lit (.bool true)], args := [d1, d2] }
  | _ => none }
def locksHoldRow : OpenClaim := { program := "ytaeckfhmmckopaa", sum := "d009ba520eb4f54e46ccda2b9258087817636c034e40d53315a0be9df6db3864", func := "locklane/lanelaw1.LocksHold", spec := "locksHold", unfollowed := true, recurses := true, apart := false }
def LocksHoldSaid : Prop := locksHoldRow.holds Try.pinned (OpenSpec.ofChange locksHoldSpec)

/-- ITS FALSE NEIGHBOUR: 'it returns false'. Refute it at one input. -/
def locksHoldWrong : ChangeSpec := { name := "locksHold", fn := fun _ => fun
  | [d1, d2] => { results := [.lit (.bool false)], args := [d1, d2] }
  | _ => none }
def LocksHoldWrongFalsely : Prop := locksHoldRow.holds Try.pinned (OpenSpec.ofChange locksHoldWrong)

/-- 'lanelaw4.VersionsRising': WHATEVER THE INPUT: true; the input reads as it did. -/
def versionsRisingSpec : ChangeSpec := { name := "versionsRising", fn := fun _ => fun
  | [d1, d2] => { results := [.lit (.bool true)], args := [d1, d2] }
  | _ => none }
def versionsRisingRow : OpenClaim := { program := "ytaeckfhmmckopaa", sum := "d009ba520eb4f54e46ccda2b9258087817636c034e40d53315a0be9df6db3864", func := "locklane/lanelaw4.VersionsRising", spec := "versionsRising", unfollowed := true, recurses := true, apart := false }
def VersionsRisingSaid : Prop := versionsRisingRow.holds Try.pinned (OpenSpec.ofChange versionsRisingSpec)

/-- ITS FALSE NEIGHBOUR: 'it returns false'. Refute it at one input. -/
def versionsRisingWrong : ChangeSpec := { name := "versionsRising", fn := fun _ => fun
  | [d1, d2] => { results := [.lit (.bool false)], args := [d1, d2] }
  | _ => none }
def VersionsRisingWrongFalsely : Prop := versionsRisingRow.holds Try.pinned (OpenSpec.ofChange versionsRisingWrong)

/-- 'lanelaw2.VersionsSerial': WHATEVER THE INPUT: true; the input reads as it did. -/
def versionsSerialSpec : ChangeSpec := { name := "versionsSerial", fn := fun _ => fun
  | [d] => { results := [.lit (.bool true)], args := [d] }
  | _ => none }
def versionsSerialRow : OpenClaim := { program := "ytaeckfhmmckopaa", sum := "d009ba520eb4f54e46ccda2b9258087817636c034e40d53315a0be9df6db3864", func := "locklane/lanelaw2.VersionsSerial", spec := "versionsSerial", unfollowed := true, recurses := true, apart := false }
def VersionsSerialSaid : Prop := versionsSerialRow.holds Try.pinned (OpenSpec.ofChange versionsSerialSpec)

/-- ITS FALSE NEIGHBOUR: 'it returns false'. Refute it at one input. -/
def versionsSerialWrong : ChangeSpec := { name := "versionsSerial", fn := fun _ => fun
  | [d] => { results := [.lit (.bool false)], args := [d] }
  | _ => none }
def VersionsSerialWrongFalsely : Prop := versionsSerialRow.holds Try.pinned (OpenSpec.ofChange versionsSerialWrong)

/- THE SECOND FORM. 'bulk': how many values and letters a reading holds, each counted each time it is reached (what is shared counts as often as it is met; a slice's spare places count too). A statement '..UptoSaid' is the law's where the arguments, and the package variables that the reading takes, are together of bulk at most 1048576: NARROWER than '..Said'. Prove '..Said' where nothing that the law and all that it calls make is longer than what came in: it says more and counts as full. Else prove '..UptoSaid'. A law counts once. -/
mutual
def uptoBulk {H : Type} : DataW H → Nat
  | .lit (.string bytes) => bytes.length + 1
  | .lit _ => 1
  | .nil => 1
  | .ptr d => uptoBulk d + 1
  | .slice elems spare => uptoBulkAll elems + uptoBulkAll spare + 1
  | .agg parts => uptoBulkAll parts + 1
  | .iface _ d => uptoBulk d + 1
  | .map entries => uptoBulkEntries entries + 1
  | .held _ => 1
def uptoBulkAll {H : Type} : List (DataW H) → Nat
  | [] => 0
  | d :: r => uptoBulk d + uptoBulkAll r
def uptoBulkEntries {H : Type} : List (Lit × DataW H) → Nat
  | [] => 0
  | x :: r => uptoBulkEntry x + uptoBulkEntries r
def uptoBulkEntry {H : Type} : Lit × DataW H → Nat
  | (.string bytes, d) => bytes.length + uptoBulk d + 1
  | (_, d) => uptoBulk d + 1
 end
def uptoSmall : (H : Type) → List (DataW H) → Bool := fun _ ds => decide (uptoBulkAll ds ≤ 1048576)
def OpenSpec.upto (s : _root_.Go.ChangeSpec) : _root_.Go.OpenSpec := { _root_.Go.OpenSpec.ofChange s with cond := some uptoSmall }

/-- 'lanelaw1.Names', WHERE WHAT IT READS IS OF BULK AT MOST 1048576: true; the input reads as it did. -/
def namesUptoRow : OpenClaim := { program := "ytaeckfhmmckopaa", sum := "d009ba520eb4f54e46ccda2b9258087817636c034e40d53315a0be9df6db3864", func := "locklane/lanelaw1.Names", spec := "names", apart := false, narrowed := true }
def NamesUptoSaid : Prop := namesUptoRow.holds Try.pinned (OpenSpec.upto namesSpec)

/-- 'lanelaw4.StockTakes', WHERE WHAT IT READS IS OF BULK AT MOST 1048576: true; the input reads as it did. -/
def stockTakesUptoRow : OpenClaim := { program := "ytaeckfhmmckopaa", sum := "d009ba520eb4f54e46ccda2b9258087817636c034e40d53315a0be9df6db3864", func := "locklane/lanelaw4.StockTakes", spec := "stockTakes", apart := false, narrowed := true }
def StockTakesUptoSaid : Prop := stockTakesUptoRow.holds Try.pinned (OpenSpec.upto stockTakesSpec)

/-- 'lanelaw3.StockBetween', WHERE WHAT IT READS IS OF BULK AT MOST 1048576: true; the input reads as it did. -/
def stockBetweenUptoRow : OpenClaim := { program := "ytaeckfhmmckopaa", sum := "d009ba520eb4f54e46ccda2b9258087817636c034e40d53315a0be9df6db3864", func := "locklane/lanelaw3.StockBetween", spec := "stockBetween", apart := false, narrowed := true }
def StockBetweenUptoSaid : Prop := stockBetweenUptoRow.holds Try.pinned (OpenSpec.upto stockBetweenSpec)

/-- 'lanelaw4.StampRising', WHERE WHAT IT READS IS OF BULK AT MOST 1048576: true; the input reads as it did. -/
def stampRisingUptoRow : OpenClaim := { program := "ytaeckfhmmckopaa", sum := "d009ba520eb4f54e46ccda2b9258087817636c034e40d53315a0be9df6db3864", func := "locklane/lanelaw4.StampRising", spec := "stampRising", apart := false, narrowed := true }
def StampRisingUptoSaid : Prop := stampRisingUptoRow.holds Try.pinned (OpenSpec.upto stampRisingSpec)

/-- 'lanelaw4.PlayOne', WHERE WHAT IT READS IS OF BULK AT MOST 1048576: true; the input reads as it did. -/
def playOneUptoRow : OpenClaim := { program := "ytaeckfhmmckopaa", sum := "d009ba520eb4f54e46ccda2b9258087817636c034e40d53315a0be9df6db3864", func := "locklane/lanelaw4.PlayOne", spec := "playOne", unfollowed := true, recurses := true, apart := false, narrowed := true }
def PlayOneUptoSaid : Prop := playOneUptoRow.holds Try.pinned (OpenSpec.upto playOneSpec)

/-- 'lanelaw4.SnapReaders', WHERE WHAT IT READS IS OF BULK AT MOST 1048576: true; the input reads as it did. -/
def snapReadersUptoRow : OpenClaim := { program := "ytaeckfhmmckopaa", sum := "d009ba520eb4f54e46ccda2b9258087817636c034e40d53315a0be9df6db3864", func := "locklane/lanelaw4.SnapReaders", spec := "snapReaders", unfollowed := true, recurses := true, apart := false, narrowed := true }
def SnapReadersUptoSaid : Prop := snapReadersUptoRow.holds Try.pinned (OpenSpec.upto snapReadersSpec)

/-- 'lanelaw2.ValidSerial', WHERE WHAT IT READS IS OF BULK AT MOST 1048576: true; the input reads as it did. -/
def validSerialUptoRow : OpenClaim := { program := "ytaeckfhmmckopaa", sum := "d009ba520eb4f54e46ccda2b9258087817636c034e40d53315a0be9df6db3864", func := "locklane/lanelaw2.ValidSerial", spec := "validSerial", unfollowed := true, recurses := true, apart := false, narrowed := true }
def ValidSerialUptoSaid : Prop := validSerialUptoRow.holds Try.pinned (OpenSpec.upto validSerialSpec)

/-- 'lanelaw4.FacesPrefix', WHERE WHAT IT READS IS OF BULK AT MOST 1048576: true; the input reads as it did. -/
def facesPrefixUptoRow : OpenClaim := { program := "ytaeckfhmmckopaa", sum := "d009ba520eb4f54e46ccda2b9258087817636c034e40d53315a0be9df6db3864", func := "locklane/lanelaw4.FacesPrefix", spec := "facesPrefix", unfollowed := true, recurses := true, apart := false, narrowed := true }
def FacesPrefixUptoSaid : Prop := facesPrefixUptoRow.holds Try.pinned (OpenSpec.upto facesPrefixSpec)

/-- 'lanelaw1.PlayDone', WHERE WHAT IT READS IS OF BULK AT MOST 1048576: true; the input reads as it did. -/
def playDoneUptoRow : OpenClaim := { program := "ytaeckfhmmckopaa", sum := "d009ba520eb4f54e46ccda2b9258087817636c034e40d53315a0be9df6db3864", func := "locklane/lanelaw1.PlayDone", spec := "playDone", unfollowed := true, recurses := true, apart := false, narrowed := true }
def PlayDoneUptoSaid : Prop := playDoneUptoRow.holds Try.pinned (OpenSpec.upto playDoneSpec)

/-- 'lanelaw4.LocksTogether', WHERE WHAT IT READS IS OF BULK AT MOST 1048576: true; the input reads as it did. -/
def locksTogetherUptoRow : OpenClaim := { program := "ytaeckfhmmckopaa", sum := "d009ba520eb4f54e46ccda2b9258087817636c034e40d53315a0be9df6db3864", func := "locklane/lanelaw4.LocksTogether", spec := "locksTogether", unfollowed := true, recurses := true, apart := false, narrowed := true }
def LocksTogetherUptoSaid : Prop := locksTogetherUptoRow.holds Try.pinned (OpenSpec.upto locksTogetherSpec)

/-- 'lanelaw1.LocksHold', WHERE WHAT IT READS IS OF BULK AT MOST 1048576: true; the input reads as it did. -/
def locksHoldUptoRow : OpenClaim := { program := "ytaeckfhmmckopaa", sum := "d009ba520eb4f54e46ccda2b9258087817636c034e40d53315a0be9df6db3864", func := "locklane/lanelaw1.LocksHold", spec := "locksHold", unfollowed := true, recurses := true, apart := false, narrowed := true }
def LocksHoldUptoSaid : Prop := locksHoldUptoRow.holds Try.pinned (OpenSpec.upto locksHoldSpec)

/-- 'lanelaw4.VersionsRising', WHERE WHAT IT READS IS OF BULK AT MOST 1048576: true; the input reads as it did. -/
def versionsRisingUptoRow : OpenClaim := { program := "ytaeckfhmmckopaa", sum := "d009ba520eb4f54e46ccda2b9258087817636c034e40d53315a0be9df6db3864", func := "locklane/lanelaw4.VersionsRising", spec := "versionsRising", unfollowed := true, recurses := true, apart := false, narrowed := true }
def VersionsRisingUptoSaid : Prop := versionsRisingUptoRow.holds Try.pinned (OpenSpec.upto versionsRisingSpec)

/-- 'lanelaw2.VersionsSerial', WHERE WHAT IT READS IS OF BULK AT MOST 1048576: true; the input reads as it did. -/
def versionsSerialUptoRow : OpenClaim := { program := "ytaeckfhmmckopaa", sum := "d009ba520eb4f54e46ccda2b9258087817636c034e40d53315a0be9df6db3864", func := "locklane/lanelaw2.VersionsSerial", spec := "versionsSerial", unfollowed := true, recurses := true, apart := false, narrowed := true }
def VersionsSerialUptoSaid : Prop := versionsSerialUptoRow.holds Try.pinned (OpenSpec.upto versionsSerialSpec)

end Rows
end Go.Proofs.Ytaeckfhmmckopaa
