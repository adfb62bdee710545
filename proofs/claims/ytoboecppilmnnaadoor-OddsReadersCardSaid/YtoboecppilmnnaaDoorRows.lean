/-
  NARROWER THAN 'FOR EVERY INPUT', by the rows' own cells (each row's printed sentence says how): HistoryEnds: laid · StockPlays: laid · StampTells: laid · OddsReaders: laid · PlayTells: laid · IllsTell: laid · FacesTell: laid · IllsSerial: laid · IllsFaces: laid.
  DERIVED. THE GIVEN ROWS OF THIS SEAT. 9 by the template 'for every input the law returns true; each argument reads behind the call as it read before'; 0 by the template 'total and deterministic' (their statements: YtoboecppilmnnaaDoorTotals.lean).
  GIVEN WITH THE SEED: the statements are not yours to turn. If you find one false, say at which input.
  Laid BY PROGRAM, IN A SANDBOX (cutbox-rows.mjs): the forced cells as the released guide's own fill.sh prints them over the translation 79bd62c5850a74c9… (all of the seat's roots in one cut). By AI agents, Wed Nov 11 2026. No macro, syntax, notation, axiom, sorry.
-/
import Derived.Test.YtoboecppilmnnaaDoorChecked
import GoSem.Claim
import GoSem.ClaimJoined
import GoSem.ClaimMapViews
import Derived.JoinedTies
import Derived.KernelRfl
namespace Go.Proofs.YtoboecppilmnnaaDoor
/- THE CELL 'sum', in the pinned program and in every row, IS THE sha256 OF THE DUMP (.gsa) THAT YtoboecppilmnnaaDoorProg.lean LOADS. Nothing in Lean hashes anything: it is a label: what it is worth is what the hold of that sum in a sandbox is worth. -/
noncomputable def Tryd.pinned : Pinned := { name := "ytoboecppilmnnaadoor", sum := "79bd62c5850a74c970d0a967c309b13b4757fddd06033d8e9e45ebe607b018fc", checked := Tryd.checked }
namespace Rows
def none {H : Type} : Left H := { results := [], args := [] }

/- WHAT THE LISTED PACKAGE-LEVEL VARIABLES READ AS WHEN THE CALL BEGINS. Each datum BY PROGRAM (the guide's laid-datum.mjs) off the statement by which the dump's own 'gosem.cut.vars' lays the variable. In a bare row this is a premise. The card (YtoboecppilmnnaaDoorCards.lean) ties it to the program's text. -/
def laid_errors_errorType {H : Type} : DataW H := .iface "internal/reflectlite.rtype" (.agg [.ptr (.lit (.string [101, 114, 114, 111, 114]))])

/-- 'lanelaw4.HistoryEnds': WHATEVER THE INPUT: true; the input reads as it did. -/
def historyEndsSpec : ChangeSpec := { name := "historyEnds", fn := fun _ => fun
  | [d1, d2] => { results := [.lit (.bool true)], args := [d1, d2] }
  | _ => none }
def historyEndsRow : OpenClaim := { program := "ytoboecppilmnnaadoor", sum := "79bd62c5850a74c970d0a967c309b13b4757fddd06033d8e9e45ebe607b018fc", func := "locklane/lanelaw4.HistoryEnds", spec := "historyEnds", inPlace := ["internal/reflectlite.ValueOf", "(internal/reflectlite.Value).Type", "(internal/reflectlite.Value).IsNil", "internal/reflectlite.TypeOf", "(internal/reflectlite.Value).Elem", "(internal/reflectlite.Value).Set"], unfollowed := true, recurses := true, named := ["errors.errorType"], apart := false, laid := [("errors.errorType", laid_errors_errorType)] }
def HistoryEndsSaid : Prop := historyEndsRow.holds Tryd.pinned (OpenSpec.ofChange historyEndsSpec)

/-- ITS FALSE NEIGHBOUR: 'it returns false'. Refute it at one input. -/
def historyEndsWrong : ChangeSpec := { name := "historyEnds", fn := fun _ => fun
  | [d1, d2] => { results := [.lit (.bool false)], args := [d1, d2] }
  | _ => none }
def HistoryEndsWrongFalsely : Prop := historyEndsRow.holds Tryd.pinned (OpenSpec.ofChange historyEndsWrong)

/-- 'lanelaw3.StockPlays': WHATEVER THE INPUT: true; the input reads as it did. -/
def stockPlaysSpec : ChangeSpec := { name := "stockPlays", fn := fun _ => fun
  | [d1, d2] => { results := [.lit (.bool true)], args := [d1, d2] }
  | _ => none }
def stockPlaysRow : OpenClaim := { program := "ytoboecppilmnnaadoor", sum := "79bd62c5850a74c970d0a967c309b13b4757fddd06033d8e9e45ebe607b018fc", func := "locklane/lanelaw3.StockPlays", spec := "stockPlays", inPlace := ["internal/reflectlite.ValueOf", "(internal/reflectlite.Value).Type", "(internal/reflectlite.Value).IsNil", "internal/reflectlite.TypeOf", "(internal/reflectlite.Value).Elem", "(internal/reflectlite.Value).Set"], unfollowed := true, recurses := true, named := ["errors.errorType"], apart := false, laid := [("errors.errorType", laid_errors_errorType)] }
def StockPlaysSaid : Prop := stockPlaysRow.holds Tryd.pinned (OpenSpec.ofChange stockPlaysSpec)

/-- ITS FALSE NEIGHBOUR: 'it returns false'. Refute it at one input. -/
def stockPlaysWrong : ChangeSpec := { name := "stockPlays", fn := fun _ => fun
  | [d1, d2] => { results := [.lit (.bool false)], args := [d1, d2] }
  | _ => none }
def StockPlaysWrongFalsely : Prop := stockPlaysRow.holds Tryd.pinned (OpenSpec.ofChange stockPlaysWrong)

/-- 'lanelaw2.StampTells': WHATEVER THE INPUT: true; the input reads as it did. -/
def stampTellsSpec : ChangeSpec := { name := "stampTells", fn := fun _ => fun
  | [d1, d2] => { results := [.lit (.bool true)], args := [d1, d2] }
  | _ => none }
def stampTellsRow : OpenClaim := { program := "ytoboecppilmnnaadoor", sum := "79bd62c5850a74c970d0a967c309b13b4757fddd06033d8e9e45ebe607b018fc", func := "locklane/lanelaw2.StampTells", spec := "stampTells", inPlace := ["internal/reflectlite.ValueOf", "(internal/reflectlite.Value).Type", "(internal/reflectlite.Value).IsNil", "internal/reflectlite.TypeOf", "(internal/reflectlite.Value).Elem", "(internal/reflectlite.Value).Set"], unfollowed := true, recurses := true, named := ["errors.errorType"], apart := false, laid := [("errors.errorType", laid_errors_errorType)] }
def StampTellsSaid : Prop := stampTellsRow.holds Tryd.pinned (OpenSpec.ofChange stampTellsSpec)

/-- ITS FALSE NEIGHBOUR: 'it returns false'. Refute it at one input. -/
def stampTellsWrong : ChangeSpec := { name := "stampTells", fn := fun _ => fun
  | [d1, d2] => { results := [.lit (.bool false)], args := [d1, d2] }
  | _ => none }
def StampTellsWrongFalsely : Prop := stampTellsRow.holds Tryd.pinned (OpenSpec.ofChange stampTellsWrong)

/-- 'lanelaw4.OddsReaders': WHATEVER THE INPUT: true; the input reads as it did. -/
def oddsReadersSpec : ChangeSpec := { name := "oddsReaders", fn := fun _ => fun
  | [d1, d2] => { results := [.lit (.bool true)], args := [d1, d2] }
  | _ => none }
def oddsReadersRow : OpenClaim := { program := "ytoboecppilmnnaadoor", sum := "79bd62c5850a74c970d0a967c309b13b4757fddd06033d8e9e45ebe607b018fc", func := "locklane/lanelaw4.OddsReaders", spec := "oddsReaders", inPlace := ["internal/reflectlite.ValueOf", "(internal/reflectlite.Value).Type", "(internal/reflectlite.Value).IsNil", "internal/reflectlite.TypeOf", "(internal/reflectlite.Value).Elem", "(internal/reflectlite.Value).Set"], unfollowed := true, recurses := true, named := ["errors.errorType"], apart := false, laid := [("errors.errorType", laid_errors_errorType)] }
def OddsReadersSaid : Prop := oddsReadersRow.holds Tryd.pinned (OpenSpec.ofChange oddsReadersSpec)

/-- ITS FALSE NEIGHBOUR: 'it returns false'. Refute it at one input. -/
def oddsReadersWrong : ChangeSpec := { name := "oddsReaders", fn := fun _ => fun
  | [d1, d2] => { results := [.lit (.bool false)], args := [d1, d2] }
  | _ => none }
def OddsReadersWrongFalsely : Prop := oddsReadersRow.holds Tryd.pinned (OpenSpec.ofChange oddsReadersWrong)

/-- 'lanelaw1.PlayTells': WHATEVER THE INPUT: true; the input reads as it did. -/
def playTellsSpec : ChangeSpec := { name := "playTells", fn := fun _ => fun
  | [d] => { results := [.lit (.bool true)], args := [d] }
  | _ => none }
def playTellsRow : OpenClaim := { program := "ytoboecppilmnnaadoor", sum := "79bd62c5850a74c970d0a967c309b13b4757fddd06033d8e9e45ebe607b018fc", func := "locklane/lanelaw1.PlayTells", spec := "playTells", inPlace := ["internal/reflectlite.ValueOf", "(internal/reflectlite.Value).Type", "(internal/reflectlite.Value).IsNil", "internal/reflectlite.TypeOf", "(internal/reflectlite.Value).Elem", "(internal/reflectlite.Value).Set"], unfollowed := true, recurses := true, named := ["errors.errorType"], apart := false, laid := [("errors.errorType", laid_errors_errorType)] }
def PlayTellsSaid : Prop := playTellsRow.holds Tryd.pinned (OpenSpec.ofChange playTellsSpec)

/-- ITS FALSE NEIGHBOUR: 'it returns false'. Refute it at one input. -/
def playTellsWrong : ChangeSpec := { name := "playTells", fn := fun _ => fun
  | [d] => { results := [.lit (.bool false)], args := [d] }
  | _ => none }
def PlayTellsWrongFalsely : Prop := playTellsRow.holds Tryd.pinned (OpenSpec.ofChange playTellsWrong)

/-- 'lanelaw3.IllsTell': WHATEVER THE INPUT: true; the input reads as it did. -/
def illsTellSpec : ChangeSpec := { name := "illsTell", fn := fun _ => fun
  | [d] => { results := [.lit (.bool true)], args := [d] }
  | _ => none }
def illsTellRow : OpenClaim := { program := "ytoboecppilmnnaadoor", sum := "79bd62c5850a74c970d0a967c309b13b4757fddd06033d8e9e45ebe607b018fc", func := "locklane/lanelaw3.IllsTell", spec := "illsTell", inPlace := ["internal/reflectlite.ValueOf", "(internal/reflectlite.Value).Type", "(internal/reflectlite.Value).IsNil", "internal/reflectlite.TypeOf", "(internal/reflectlite.Value).Elem", "(internal/reflectlite.Value).Set"], unfollowed := true, recurses := true, named := ["errors.errorType"], apart := false, laid := [("errors.errorType", laid_errors_errorType)] }
def IllsTellSaid : Prop := illsTellRow.holds Tryd.pinned (OpenSpec.ofChange illsTellSpec)

/-- ITS FALSE NEIGHBOUR: 'it returns false'. Refute it at one input. -/
def illsTellWrong : ChangeSpec := { name := "illsTell", fn := fun _ => fun
  | [d] => { results := [.lit (.bool false)], args := [d] }
  | _ => none }
def IllsTellWrongFalsely : Prop := illsTellRow.holds Tryd.pinned (OpenSpec.ofChange illsTellWrong)

/-- 'lanelaw1.FacesTell': WHATEVER THE INPUT: true; the input reads as it did. -/
def facesTellSpec : ChangeSpec := { name := "facesTell", fn := fun _ => fun
  | [d] => { results := [.lit (.bool true)], args := [d] }
  | _ => none }
def facesTellRow : OpenClaim := { program := "ytoboecppilmnnaadoor", sum := "79bd62c5850a74c970d0a967c309b13b4757fddd06033d8e9e45ebe607b018fc", func := "locklane/lanelaw1.FacesTell", spec := "facesTell", inPlace := ["internal/reflectlite.ValueOf", "(internal/reflectlite.Value).Type", "(internal/reflectlite.Value).IsNil", "internal/reflectlite.TypeOf", "(internal/reflectlite.Value).Elem", "(internal/reflectlite.Value).Set"], unfollowed := true, recurses := true, named := ["errors.errorType"], apart := false, laid := [("errors.errorType", laid_errors_errorType)] }
def FacesTellSaid : Prop := facesTellRow.holds Tryd.pinned (OpenSpec.ofChange facesTellSpec)

/-- ITS FALSE NEIGHBOUR: 'it returns false'. Refute it at one input. -/
def facesTellWrong : ChangeSpec := { name := "facesTell", fn := fun _ => fun
  | [d] => { results := [.lit (.bool false)], args := [d] }
  | _ => none }
def FacesTellWrongFalsely : Prop := facesTellRow.holds Tryd.pinned (OpenSpec.ofChange facesTellWrong)

/-- 'lanelaw4.IllsSerial': WHATEVER THE INPUT: true; the input reads as it did. -/
def illsSerialSpec : ChangeSpec := { name := "illsSerial", fn := fun _ => fun
  | [d1, d2, d3] => { results := [.lit (.bool true)], args := [d1, d2, d3] }
  | _ => none }
def illsSerialRow : OpenClaim := { program := "ytoboecppilmnnaadoor", sum := "79bd62c5850a74c970d0a967c309b13b4757fddd06033d8e9e45ebe607b018fc", func := "locklane/lanelaw4.IllsSerial", spec := "illsSerial", inPlace := ["internal/reflectlite.ValueOf", "(internal/reflectlite.Value).Type", "(internal/reflectlite.Value).IsNil", "internal/reflectlite.TypeOf", "(internal/reflectlite.Value).Elem", "(internal/reflectlite.Value).Set"], unfollowed := true, recurses := true, named := ["errors.errorType"], apart := false, laid := [("errors.errorType", laid_errors_errorType)] }
def IllsSerialSaid : Prop := illsSerialRow.holds Tryd.pinned (OpenSpec.ofChange illsSerialSpec)

/-- ITS FALSE NEIGHBOUR: 'it returns false'. Refute it at one input. -/
def illsSerialWrong : ChangeSpec := { name := "illsSerial", fn := fun _ => fun
  | [d1, d2, d3] => { results := [.lit (.bool false)], args := [d1, d2, d3] }
  | _ => none }
def IllsSerialWrongFalsely : Prop := illsSerialRow.holds Tryd.pinned (OpenSpec.ofChange illsSerialWrong)

/-- 'lanelaw3.IllsFaces': WHATEVER THE INPUT: true; the input reads as it did. -/
def illsFacesSpec : ChangeSpec := { name := "illsFaces", fn := fun _ => fun
  | [d] => { results := [.lit (.bool true)], args := [d] }
  | _ => none }
def illsFacesRow : OpenClaim := { program := "ytoboecppilmnnaadoor", sum := "79bd62c5850a74c970d0a967c309b13b4757fddd06033d8e9e45ebe607b018fc", func := "locklane/lanelaw3.IllsFaces", spec := "illsFaces", inPlace := ["internal/reflectlite.ValueOf", "(internal/reflectlite.Value).Type", "(internal/reflectlite.Value).IsNil", "internal/reflectlite.TypeOf", "(internal/reflectlite.Value).Elem", "(internal/reflectlite.Value).Set"], unfollowed := true, recurses := true, named := ["errors.errorType"], apart := false, laid := [("errors.errorType", laid_errors_errorType)] }
def IllsFacesSaid : Prop := illsFacesRow.holds Tryd.pinned (OpenSpec.ofChange illsFacesSpec)

/-- ITS FALSE NEIGHBOUR: 'it returns false'. Refute it at one input. -/
def illsFacesWrong : ChangeSpec := { name := "illsFaces", fn := fun _ => fun
  | [d] => { results := [.lit (.bool false)], args := [d] }
  | _ => none }
def IllsFacesWrongFalsely : Prop := illsFacesRow.holds Tryd.pinned (OpenSpec.ofChange illsFacesWrong)

/- THE SECOND FORM. 'bulk': how many values and letters a reading holds, each counted each time it is reached (what is shared counts as often as it is met; a slice's spare places count too). A statement '..UptoSaid' is the law's where the arguments, and the package variables that the reading takes, are together of bulk at most 1048576: NARROWER than '..Said'. Prove '..Said' where nothing that the law and all that it calls make is longer than what came in: it says more and counts as full. Else prove '..UptoSaid'. A law counts once. -/
mutual
def uptoBulk {H : Type} : DataW H → Nat
  | .lit (.string bytes) => bytes.length + 1
  | .lit _ => 1
  | .nil => 1
  | .ptr d => uptoBulk d + 1
  | .slice elems spare => uptoBulkAll elems + uptoBulkAll spare + 1
  | .agg parts => uptoBulkAll parts + 1
  | .iface _ d => uptoBulk d + 1
  | .map entries => uptoBulkEntries entries + 1
  | .held _ => 1
def uptoBulkAll {H : Type} : List (DataW H) → Nat
  | [] => 0
  | d :: r => uptoBulk d + uptoBulkAll r
def uptoBulkEntries {H : Type} : List (Lit × DataW H) → Nat
  | [] => 0
  | x :: r => uptoBulkEntry x + uptoBulkEntries r
def uptoBulkEntry {H : Type} : Lit × DataW H → Nat
  | (.string bytes, d) => bytes.length + uptoBulk d + 1
  | (_, d) => uptoBulk d + 1
 end
def uptoSmall : (H : Type) → List (DataW H) → Bool := fun _ ds => decide (uptoBulkAll ds ≤ 1048576)
def OpenSpec.upto (s : _root_.Go.ChangeSpec) : _root_.Go.OpenSpec := { _root_.Go.OpenSpec.ofChange s with cond := some uptoSmall }

/-- 'lanelaw4.HistoryEnds', WHERE WHAT IT READS IS OF BULK AT MOST 1048576: true; the input reads as it did. -/
def historyEndsUptoRow : OpenClaim := { program := "ytoboecppilmnnaadoor", sum := "79bd62c5850a74c970d0a967c309b13b4757fddd06033d8e9e45ebe607b018fc", func := "locklane/lanelaw4.HistoryEnds", spec := "historyEnds", inPlace := ["internal/reflectlite.ValueOf", "(internal/reflectlite.Value).Type", "(internal/reflectlite.Value).IsNil", "internal/reflectlite.TypeOf", "(internal/reflectlite.Value).Elem", "(internal/reflectlite.Value).Set"], unfollowed := true, recurses := true, named := ["errors.errorType"], apart := false, laid := [("errors.errorType", laid_errors_errorType)], narrowed := true }
def HistoryEndsUptoSaid : Prop := historyEndsUptoRow.holds Tryd.pinned (OpenSpec.upto historyEndsSpec)

/-- 'lanelaw3.StockPlays', WHERE WHAT IT READS IS OF BULK AT MOST 1048576: true; the input reads as it did. -/
def stockPlaysUptoRow : OpenClaim := { program := "ytoboecppilmnnaadoor", sum := "79bd62c5850a74c970d0a967c309b13b4757fddd06033d8e9e45ebe607b018fc", func := "locklane/lanelaw3.StockPlays", spec := "stockPlays", inPlace := ["internal/reflectlite.ValueOf", "(internal/reflectlite.Value).Type", "(internal/reflectlite.Value).IsNil", "internal/reflectlite.TypeOf", "(internal/reflectlite.Value).Elem", "(internal/reflectlite.Value).Set"], unfollowed := true, recurses := true, named := ["errors.errorType"], apart := false, laid := [("errors.errorType", laid_errors_errorType)], narrowed := true }
def StockPlaysUptoSaid : Prop := stockPlaysUptoRow.holds Tryd.pinned (OpenSpec.upto stockPlaysSpec)

/-- 'lanelaw2.StampTells', WHERE WHAT IT READS IS OF BULK AT MOST 1048576: true; the input reads as it did. -/
def stampTellsUptoRow : OpenClaim := { program := "ytoboecppilmnnaadoor", sum := "79bd62c5850a74c970d0a967c309b13b4757fddd06033d8e9e45ebe607b018fc", func := "locklane/lanelaw2.StampTells", spec := "stampTells", inPlace := ["internal/reflectlite.ValueOf", "(internal/reflectlite.Value).Type", "(internal/reflectlite.Value).IsNil", "internal/reflectlite.TypeOf", "(internal/reflectlite.Value).Elem", "(internal/reflectlite.Value).Set"], unfollowed := true, recurses := true, named := ["errors.errorType"], apart := false, laid := [("errors.errorType", laid_errors_errorType)], narrowed := true }
def StampTellsUptoSaid : Prop := stampTellsUptoRow.holds Tryd.pinned (OpenSpec.upto stampTellsSpec)

/-- 'lanelaw4.OddsReaders', WHERE WHAT IT READS IS OF BULK AT MOST 1048576: true; the input reads as it did. -/
def oddsReadersUptoRow : OpenClaim := { program := "ytoboecppilmnnaadoor", sum := "79bd62c5850a74c970d0a967c309b13b4757fddd06033d8e9e45ebe607b018fc", func := "locklane/lanelaw4.OddsReaders", spec := "oddsReaders", inPlace := ["internal/reflectlite.ValueOf", "(internal/reflectlite.Value).Type", "(internal/reflectlite.Value).IsNil", "internal/reflectlite.TypeOf", "(internal/reflectlite.Value).Elem", "(internal/reflectlite.Value).Set"], unfollowed := true, recurses := true, named := ["errors.errorType"], apart := false, laid := [("errors.errorType", laid_errors_errorType)], narrowed := true }
def OddsReadersUptoSaid : Prop := oddsReadersUptoRow.holds Tryd.pinned (OpenSpec.upto oddsReadersSpec)

/-- 'lanelaw1.PlayTells', WHERE WHAT IT READS IS OF BULK AT MOST 1048576: true; the input reads as it did. -/
def playTellsUptoRow : OpenClaim := { program := "ytoboecppilmnnaadoor", sum := "79bd62c5850a74c970d0a967c309b13b4757fddd06033d8e9e45ebe607b018fc", func := "locklane/lanelaw1.PlayTells", spec := "playTells", inPlace := ["internal/reflectlite.ValueOf", "(internal/reflectlite.Value).Type", "(internal/reflectlite.Value).IsNil", "internal/reflectlite.TypeOf", "(internal/reflectlite.Value).Elem", "(internal/reflectlite.Value).Set"], unfollowed := true, recurses := true, named := ["errors.errorType"], apart := false, laid := [("errors.errorType", laid_errors_errorType)], narrowed := true }
def PlayTellsUptoSaid : Prop := playTellsUptoRow.holds Tryd.pinned (OpenSpec.upto playTellsSpec)

/-- 'lanelaw3.IllsTell', WHERE WHAT IT READS IS OF BULK AT MOST 1048576: true; the input reads as it did. -/
def illsTellUptoRow : OpenClaim := { program := "ytoboecppilmnnaadoor", sum := "79bd62c5850a74c970d0a967c309b13b4757fddd06033d8e9e45ebe607b018fc", func := "locklane/lanelaw3.IllsTell", spec := "illsTell", inPlace := ["internal/reflectlite.ValueOf", "(internal/reflectlite.Value).Type", "(internal/reflectlite.Value).IsNil", "internal/reflectlite.TypeOf", "(internal/reflectlite.Value).Elem", "(internal/reflectlite.Value).Set"], unfollowed := true, recurses := true, named := ["errors.errorType"], apart := false, laid := [("errors.errorType", laid_errors_errorType)], narrowed := true }
def IllsTellUptoSaid : Prop := illsTellUptoRow.holds Tryd.pinned (OpenSpec.upto illsTellSpec)

/-- 'lanelaw1.FacesTell', WHERE WHAT IT READS IS OF BULK AT MOST 1048576: true; the input reads as it did. -/
def facesTellUptoRow : OpenClaim := { program := "ytoboecppilmnnaadoor", sum := "79bd62c5850a74c970d0a967c309b13b4757fddd06033d8e9e45ebe607b018fc", func := "locklane/lanelaw1.FacesTell", spec := "facesTell", inPlace := ["internal/reflectlite.ValueOf", "(internal/reflectlite.Value).Type", "(internal/reflectlite.Value).IsNil", "internal/reflectlite.TypeOf", "(internal/reflectlite.Value).Elem", "(internal/reflectlite.Value).Set"], unfollowed := true, recurses := true, named := ["errors.errorType"], apart := false, laid := [("errors.errorType", laid_errors_errorType)], narrowed := true }
def FacesTellUptoSaid : Prop := facesTellUptoRow.holds Tryd.pinned (OpenSpec.upto facesTellSpec)

/-- 'lanelaw4.IllsSerial', WHERE WHAT IT READS IS OF BULK AT MOST 1048576: true; the input reads as it did. -/
def illsSerialUptoRow : OpenClaim := { program := "ytoboecppilmnnaadoor", sum := "79bd62c5850a74c970d0a967c309b13b4757fddd06033d8e9e45ebe607b018fc", func := "locklane/lanelaw4.IllsSerial", spec := "illsSerial", inPlace := ["internal/reflectlite.ValueOf", "(internal/reflectlite.Value).Type", "(internal/reflectlite.Value).IsNil", "internal/reflectlite.TypeOf", "(internal/reflectlite.Value).Elem", "(internal/reflectlite.Value).Set"], unfollowed := true, recurses := true, named := ["errors.errorType"], apart := false, laid := [("errors.errorType", laid_errors_errorType)], narrowed := true }
def IllsSerialUptoSaid : Prop := illsSerialUptoRow.holds Tryd.pinned (OpenSpec.upto illsSerialSpec)

/-- 'lanelaw3.IllsFaces', WHERE WHAT IT READS IS OF BULK AT MOST 1048576: true; the input reads as it did. -/
def illsFacesUptoRow : OpenClaim := { program := "ytoboecppilmnnaadoor", sum := "79bd62c5850a74c970d0a967c309b13b4757fddd06033d8e9e45ebe607b018fc", func := "locklane/lanelaw3.IllsFaces", spec := "illsFaces", inPlace := ["internal/reflectlite.ValueOf", "(internal/reflectlite.Value).Type", "(internal/reflectlite.Value).IsNil", "internal/reflectlite.TypeOf", "(internal/reflectlite.Value).Elem", "(internal/reflectlite.Value).Set"], unfollowed := true, recurses := true, named := ["errors.errorType"], apart := false, laid := [("errors.errorType", laid_errors_errorType)], narrowed := true }
def IllsFacesUptoSaid : Prop := illsFacesUptoRow.holds Tryd.pinned (OpenSpec.upto illsFacesSpec)

end Rows
end Go.Proofs.YtoboecppilmnnaaDoor
