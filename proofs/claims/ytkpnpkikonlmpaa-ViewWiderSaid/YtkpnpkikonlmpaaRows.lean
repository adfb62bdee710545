/-
  No cell of these rows narrows 'for every input' (looked for: loops, veiled, ifaces, maps, wideKeys, modest, calm, conditions, laid).
  DERIVED. THE GIVEN ROWS OF THIS SEAT. 5 by the template 'for every input the law returns true; each argument reads behind the call as it read before'; 0 by the template 'total and deterministic' (their statements: YtkpnpkikonlmpaaTotals.lean).
  GIVEN WITH THE SEED: the statements are not yours to turn. If you find one false, say at which input.
  Laid BY PROGRAM, IN A SANDBOX (cutbox-rows.mjs): the forced cells as the released guide's own fill.sh prints them over the translation 23b26a8b9590284e… (all of the seat's roots in one cut). By AI agents, Wed Nov 11 2026. No macro, syntax, notation, axiom, sorry.
-/
import Derived.Test.YtkpnpkikonlmpaaChecked
import GoSem.Claim
import GoSem.ClaimJoined
import GoSem.ClaimMapViews
import Derived.JoinedTies
import Derived.KernelRfl
namespace Go.Proofs.Ytkpnpkikonlmpaa
/- THE CELL 'sum', in the pinned program and in every row, IS THE sha256 OF THE DUMP (.gsa) THAT YtkpnpkikonlmpaaProg.lean LOADS. Nothing in Lean hashes anything: it is a label: what it is worth is what the hold of that sum in a sandbox is worth. -/
noncomputable def Try.pinned : Pinned := { name := "ytkpnpkikonlmpaa", sum := "23b26a8b9590284e9e0215dc614765fa0fe9e0242f01782a40213485cd719910", checked := Try.checked }
namespace Rows
def none {H : Type} : Left H := { results := [], args := [] }

/-- 'lanelaw1.FacesNest': WHATEVER THE INPUT: true; the input reads as it did. -/
def facesNestSpec : ChangeSpec := { name := "facesNest", fn := fun _ => fun
  | [d] => { results := [.lit (.bool true)], args := [d] }
  | _ => none }
def facesNestRow : OpenClaim := { program := "ytkpnpkikonlmpaa", sum := "23b26a8b9590284e9e0215dc614765fa0fe9e0242f01782a40213485cd719910", func := "locklane/lanelaw1.FacesNest", spec := "facesNest", unfollowed := true, recurses := true, plainKeys := false, apart := false }
def FacesNestSaid : Prop := facesNestRow.holds Try.pinned (OpenSpec.ofChange facesNestSpec)

/-- ITS FALSE NEIGHBOUR: 'it returns false'. Refute it at one input. -/
def facesNestWrong : ChangeSpec := { name := "facesNest", fn := fun _ => fun
  | [d] => { results := [.lit (.bool false)], args := [d] }
  | _ => none }
def FacesNestWrongFalsely : Prop := facesNestRow.holds Try.pinned (OpenSpec.ofChange facesNestWrong)

/-- 'lanelaw1.SerialJust': WHATEVER THE INPUT: true; the input reads as it did. -/
def serialJustSpec : ChangeSpec := { name := "serialJust", fn := fun _ => fun
  | [d1, d2] => { results := [.lit (.bool true)], args := [d1, d2] }
  | _ => none }
def serialJustRow : OpenClaim := { program := "ytkpnpkikonlmpaa", sum := "23b26a8b9590284e9e0215dc614765fa0fe9e0242f01782a40213485cd719910", func := "locklane/lanelaw1.SerialJust", spec := "serialJust", unfollowed := true, recurses := true, plainKeys := false, apart := false }
def SerialJustSaid : Prop := serialJustRow.holds Try.pinned (OpenSpec.ofChange serialJustSpec)

/-- ITS FALSE NEIGHBOUR: 'it returns false'. Refute it at one input. -/
def serialJustWrong : ChangeSpec := { name := "serialJust", fn := fun _ => fun
  | [d1, d2] => { results := [.lit (.bool false)], args := [d1, d2] }
  | _ => none }
def SerialJustWrongFalsely : Prop := serialJustRow.holds Try.pinned (OpenSpec.ofChange serialJustWrong)

/-- 'lanelaw2.StampOrders': WHATEVER THE INPUT: true; the input reads as it did. -/
def stampOrdersSpec : ChangeSpec := { name := "stampOrders", fn := fun _ => fun
  | [d] => { results := [.lit (.bool true)], args := [d] }
  | _ => none }
def stampOrdersRow : OpenClaim := { program := "ytkpnpkikonlmpaa", sum := "23b26a8b9590284e9e0215dc614765fa0fe9e0242f01782a40213485cd719910", func := "locklane/lanelaw2.StampOrders", spec := "stampOrders", unfollowed := true, recurses := true, plainKeys := false, apart := false }
def StampOrdersSaid : Prop := stampOrdersRow.holds Try.pinned (OpenSpec.ofChange stampOrdersSpec)

/-- ITS FALSE NEIGHBOUR: 'it returns false'. Refute it at one input. -/
def stampOrdersWrong : ChangeSpec := { name := "stampOrders", fn := fun _ => fun
  | [d] => { results := [.lit (.bool false)], args := [d] }
  | _ => none }
def StampOrdersWrongFalsely : Prop := stampOrdersRow.holds Try.pinned (OpenSpec.ofChange stampOrdersWrong)

/-- 'lanelaw1.ViewWider': WHATEVER THE INPUT: true; the input reads as it did. -/
def viewWiderSpec : ChangeSpec := { name := "viewWider", fn := fun _ => fun
  | [d1, d2] => { results := [.lit (.bool true)], args := [d1, d2] }
  | _ => none }
def viewWiderRow : OpenClaim := { program := "ytkpnpkikonlmpaa", sum := "23b26a8b9590284e9e0215dc614765fa0fe9e0242f01782a40213485cd719910", func := "locklane/lanelaw1.ViewWider", spec := "viewWider", unfollowed := true, recurses := true, plainKeys := false, apart := false }
def ViewWiderSaid : Prop := viewWiderRow.holds Try.pinned (OpenSpec.ofChange viewWiderSpec)

/-- ITS FALSE NEIGHBOUR: 'it returns false'. Refute it at one input. -/
def viewWiderWrong : ChangeSpec := { name := "viewWider", fn := fun _ => fun
  | [d1, d2] => { results := [.lit (.bool false)], args := [d1, d2] }
  | _ => none }
def ViewWiderWrongFalsely : Prop := viewWiderRow.holds Try.pinned (OpenSpec.ofChange viewWiderWrong)

/-- 'lanetop.TopSwaps': WHATEVER THE INPUT: true; the input reads as it did. -/
def topSwapsSpec : ChangeSpec := { name := "topSwaps", fn := fun _ => fun
  | [d1, d2] => { results := [.lit (.bool true)], args := [d1, d2] }
  | _ => none }
def topSwapsRow : OpenClaim := { program := "ytkpnpkikonlmpaa", sum := "23b26a8b9590284e9e0215dc614765fa0fe9e0242f01782a40213485cd719910", func := "locklane/lanetop.TopSwaps", spec := "topSwaps", unfollowed := true, recurses := true, plainKeys := false, apart := false }
def TopSwapsSaid : Prop := topSwapsRow.holds Try.pinned (OpenSpec.ofChange topSwapsSpec)

/-- ITS FALSE NEIGHBOUR: 'it returns false'. Refute it at one input. -/
def topSwapsWrong : ChangeSpec := { name := "topSwaps", fn := fun _ => fun
  | [d1, d2] => { results := [.lit (.bool false)], args := [d1, d2] }
  | _ => none }
def TopSwapsWrongFalsely : Prop := topSwapsRow.holds Try.pinned (OpenSpec.ofChange topSwapsWrong)

/- THE SECOND FORM. 'bulk': how many values and letters a reading holds, each counted each time it is reached (what is shared counts as often as it is met; a slice's spare places count too). A statement '..UptoSaid' is the law's where the arguments, and the package variables that the reading takes, are together of bulk at most 1048576: NARROWER than '..Said'. Prove '..Said' where nothing that the law and all that it calls make is longer than what came in: it says more and counts as full. Else prove '..UptoSaid'. A law counts once. -/
mutual
def uptoBulk {H : Type} : DataW H → Nat
  | .lit (.string bytes) => bytes.length + 1
  | .lit _ => 1
  | .nil => 1
  | .ptr d => uptoBulk d + 1
  | .slice elems spare => uptoBulkAll elems + uptoBulkAll spare + 1
  | .agg parts => uptoBulkAll parts + 1
  | .iface _ d => uptoBulk d + 1
  | .map entries => uptoBulkEntries entries + 1
  | .held _ => 1
def uptoBulkAll {H : Type} : List (DataW H) → Nat
  | [] => 0
  | d :: r => uptoBulk d + uptoBulkAll r
def uptoBulkEntries {H : Type} : List (Lit × DataW H) → Nat
  | [] => 0
  | x :: r => uptoBulkEntry x + uptoBulkEntries r
def uptoBulkEntry {H : Type} : Lit × DataW H → Nat
  | (.string bytes, d) => bytes.length + uptoBulk d + 1
  | (_, d) => uptoBulk d + 1
 end
def uptoSmall : (H : Type) → List (DataW H) → Bool := fun _ ds => decide (uptoBulkAll ds ≤ 1048576)
def OpenSpec.upto (s : _root_.Go.ChangeSpec) : _root_.Go.OpenSpec := { _root_.Go.OpenSpec.ofChange s with cond := some uptoSmall }

/-- 'lanelaw1.FacesNest', WHERE WHAT IT READS IS OF BULK AT MOST 1048576: true; the input reads as it did. -/
def facesNestUptoRow : OpenClaim := { program := "ytkpnpkikonlmpaa", sum := "23b26a8b9590284e9e0215dc614765fa0fe9e0242f01782a40213485cd719910", func := "locklane/lanelaw1.FacesNest", spec := "facesNest", unfollowed := true, recurses := true, plainKeys := false, apart := false, narrowed := true }
def FacesNestUptoSaid : Prop := facesNestUptoRow.holds Try.pinned (OpenSpec.upto facesNestSpec)

/-- 'lanelaw1.SerialJust', WHERE WHAT IT READS IS OF BULK AT MOST 1048576: true; the input reads as it did. -/
def serialJustUptoRow : OpenClaim := { program := "ytkpnpkikonlmpaa", sum := "23b26a8b9590284e9e0215dc614765fa0fe9e0242f01782a40213485cd719910", func := "locklane/lanelaw1.SerialJust", spec := "serialJust", unfollowed := true, recurses := true, plainKeys := false, apart := false, narrowed := true }
def SerialJustUptoSaid : Prop := serialJustUptoRow.holds Try.pinned (OpenSpec.upto serialJustSpec)

/-- 'lanelaw2.StampOrders', WHERE WHAT IT READS IS OF BULK AT MOST 1048576: true; the input reads as it did. -/
def stampOrdersUptoRow : OpenClaim := { program := "ytkpnpkikonlmpaa", sum := "23b26a8b9590284e9e0215dc614765fa0fe9e0242f01782a40213485cd719910", func := "locklane/lanelaw2.StampOrders", spec := "stampOrders", unfollowed := true, recurses := true, plainKeys := false, apart := false, narrowed := true }
def StampOrdersUptoSaid : Prop := stampOrdersUptoRow.holds Try.pinned (OpenSpec.upto stampOrdersSpec)

/-- 'lanelaw1.ViewWider', WHERE WHAT IT READS IS OF BULK AT MOST 1048576: true; the input reads as it did. -/
def viewWiderUptoRow : OpenClaim := { program := "ytkpnpkikonlmpaa", sum := "23b26a8b9590284e9e0215dc614765fa0fe9e0242f01782a40213485cd719910", func := "locklane/lanelaw1.ViewWider", spec := "viewWider", unfollowed := true, recurses := true, plainKeys := false, apart := false, narrowed := true }
def ViewWiderUptoSaid : Prop := viewWiderUptoRow.holds Try.pinned (OpenSpec.upto viewWiderSpec)

/-- 'lanetop.TopSwaps', WHERE WHAT IT READS IS OF BULK AT MOST 1048576: true; the input reads as it did. -/
def topSwapsUptoRow : OpenClaim := { program := "ytkpnpkikonlmpaa", sum := "23b26a8b9590284e9e0215dc614765fa0fe9e0242f01782a40213485cd719910", func := "locklane/lanetop.TopSwaps", spec := "topSwaps", unfollowed := true, recurses := true, plainKeys := false, apart := false, narrowed := true }
def TopSwapsUptoSaid : Prop := topSwapsUptoRow.holds Try.pinned (OpenSpec.upto topSwapsSpec)

end Rows
end Go.Proofs.Ytkpnpkikonlmpaa
