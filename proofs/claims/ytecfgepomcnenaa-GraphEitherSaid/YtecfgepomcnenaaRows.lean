/-
  No cell of these rows narrows 'for every input' (looked for: loops, veiled, ifaces, maps, wideKeys, modest, calm, conditions, laid).
  DERIVED. THE GIVEN ROWS OF THIS SEAT. 3 by the template 'for every input the law returns true; each argument reads behind the call as it read before'; 0 by the template 'total and deterministic' (their statements: YtecfgepomcnenaaTotals.lean).
  GIVEN WITH THE SEED: the statements are not yours to turn. If you find one false, say at which input.
  Laid BY PROGRAM, IN A SANDBOX (cutbox-rows.mjs): the forced cells as the released guide's own fill.sh prints them over the translation 0eb724a976b3fa13… (all of the seat's roots in one cut). By AI agents, Wed Nov 11 2026. No macro, syntax, notation, axiom, sorry.
-/
import Derived.Test.YtecfgepomcnenaaChecked
import GoSem.Claim
import GoSem.ClaimJoined
import GoSem.ClaimMapViews
import Derived.JoinedTies
import Derived.KernelRfl
namespace Go.Proofs.Ytecfgepomcnenaa
/- THE CELL 'sum', in the pinned program and in every row, IS THE sha256 OF THE DUMP (.gsa) THAT YtecfgepomcnenaaProg.lean LOADS. Nothing in Lean hashes anything: it is a label: what it is worth is what the hold of that sum in a sandbox is worth. -/
noncomputable def Try.pinned : Pinned := { name := "ytecfgepomcnenaa", sum := "0eb724a976b3fa13aa7e32d324a3697e2f632216a8bb6ce697926dc5d99119ca", checked := Try.checked }
namespace Rows
def none {H : Type} : Left H := { results := [], args := [] }

/-- 'lanelaw1.OddsSwap': WHATEVER THE INPUT: true; the input reads as it did. -/
def oddsSwapSpec : ChangeSpec := { name := "oddsSwap", fn := fun _ => fun
  | [d1, d2] => { results := [.lit (.bool true)], args := [d1, d2] }
  | _ => none }
def oddsSwapRow : OpenClaim := { program := "ytecfgepomcnenaa", sum := "0eb724a976b3fa13aa7e32d324a3697e2f632216a8bb6ce697926dc5d99119ca", func := "locklane/lanelaw1.OddsSwap", spec := "oddsSwap", unfollowed := true, recurses := true, plainKeys := false, apart := false }
def OddsSwapSaid : Prop := oddsSwapRow.holds Try.pinned (OpenSpec.ofChange oddsSwapSpec)

/-- ITS FALSE NEIGHBOUR: 'it returns false'. Refute it at one input. -/
def oddsSwapWrong : ChangeSpec := { name := "oddsSwap", fn := fun _ => fun
  | [d1, d2] => { results := [.lit (.bool false)], args := [d1, d2] }
  | _ => none }
def OddsSwapWrongFalsely : Prop := oddsSwapRow.holds Try.pinned (OpenSpec.ofChange oddsSwapWrong)

/-- 'lanelaw1.GraphEither': WHATEVER THE INPUT: true; the input reads as it did. -/
def graphEitherSpec : ChangeSpec := { name := "graphEither", fn := fun _ => fun
  | [d] => { results := [.lit (.bool true)], args := [d] }
  | _ => none }
def graphEitherRow : OpenClaim := { program := "ytecfgepomcnenaa", sum := "0eb724a976b3fa13aa7e32d324a3697e2f632216a8bb6ce697926dc5d99119ca", func := "locklane/lanelaw1.GraphEither", spec := "graphEither", unfollowed := true, recurses := true, plainKeys := false, apart := false }
def GraphEitherSaid : Prop := graphEitherRow.holds Try.pinned (OpenSpec.ofChange graphEitherSpec)

/-- ITS FALSE NEIGHBOUR: 'it returns false'. Refute it at one input. -/
def graphEitherWrong : ChangeSpec := { name := "graphEither", fn := fun _ => fun
  | [d] => { results := [.lit (.bool false)], args := [d] }
  | _ => none }
def GraphEitherWrongFalsely : Prop := graphEitherRow.holds Try.pinned (OpenSpec.ofChange graphEitherWrong)

/-- 'lanelaw1.FacesNest': WHATEVER THE INPUT: true; the input reads as it did. -/
def facesNestSpec : ChangeSpec := { name := "facesNest", fn := fun _ => fun
  | [d] => { results := [.lit (.bool true)], args := [d] }
  | _ => none }
def facesNestRow : OpenClaim := { program := "ytecfgepomcnenaa", sum := "0eb724a976b3fa13aa7e32d324a3697e2f632216a8bb6ce697926dc5d99119ca", func := "locklane/lanelaw1.FacesNest", spec := "facesNest", unfollowed := true, recurses := true, plainKeys := false, apart := false }
def FacesNestSaid : Prop := facesNestRow.holds Try.pinned (OpenSpec.ofChange facesNestSpec)

/-- ITS FALSE NEIGHBOUR: 'it returns false'. Refute it at one input. -/
def facesNestWrong : ChangeSpec := { name := "facesNest", fn := fun _ => fun
  | [d] => { results := [.lit (.bool false)], args := [d] }
  | _ => none }
def FacesNestWrongFalsely : Prop := facesNestRow.holds Try.pinned (OpenSpec.ofChange facesNestWrong)

/- THE SECOND FORM. 'bulk': how many values and letters a reading holds, each counted each time it is reached (what is shared counts as often as it is met; a slice's spare places count too). A statement '..UptoSaid' is the law's where the arguments, and the package variables that the reading takes, are together of bulk at most 1048576: NARROWER than '..Said'. Prove '..Said' where nothing that the law and all that it calls make is longer than what came in: it says more and counts as full. Else prove '..UptoSaid'. A law counts once. -/
mutual
def uptoBulk {H : Type} : DataW H → Nat
  | .lit (.string bytes) => bytes.length + 1
  | .lit _ => 1
  | .nil => 1
  | .ptr d => uptoBulk d + 1
  | .slice elems spare => uptoBulkAll elems + uptoBulkAll spare + 1
  | .agg parts => uptoBulkAll parts + 1
  | .iface _ d => uptoBulk d + 1
  | .map entries => uptoBulkEntries entries + 1
  | .held _ => 1
def uptoBulkAll {H : Type} : List (DataW H) → Nat
  | [] => 0
  | d :: r => uptoBulk d + uptoBulkAll r
def uptoBulkEntries {H : Type} : List (Lit × DataW H) → Nat
  | [] => 0
  | x :: r => uptoBulkEntry x + uptoBulkEntries r
def uptoBulkEntry {H : Type} : Lit × DataW H → Nat
  | (.string bytes, d) => bytes.length + uptoBulk d + 1
  | (_, d) => uptoBulk d + 1
 end
def uptoSmall : (H : Type) → List (DataW H) → Bool := fun _ ds => decide (uptoBulkAll ds ≤ 1048576)
def OpenSpec.upto (s : _root_.Go.ChangeSpec) : _root_.Go.OpenSpec := { _root_.Go.OpenSpec.ofChange s with cond := some uptoSmall }

/-- 'lanelaw1.OddsSwap', WHERE WHAT IT READS IS OF BULK AT MOST 1048576: true; the input reads as it did. -/
def oddsSwapUptoRow : OpenClaim := { program := "ytecfgepomcnenaa", sum := "0eb724a976b3fa13aa7e32d324a3697e2f632216a8bb6ce697926dc5d99119ca", func := "locklane/lanelaw1.OddsSwap", spec := "oddsSwap", unfollowed := true, recurses := true, plainKeys := false, apart := false, narrowed := true }
def OddsSwapUptoSaid : Prop := oddsSwapUptoRow.holds Try.pinned (OpenSpec.upto oddsSwapSpec)

/-- 'lanelaw1.GraphEither', WHERE WHAT IT READS IS OF BULK AT MOST 1048576: true; the input reads as it did. -/
def graphEitherUptoRow : OpenClaim := { program := "ytecfgepomcnenaa", sum := "0eb724a976b3fa13aa7e32d324a3697e2f632216a8bb6ce697926dc5d99119ca", func := "locklane/lanelaw1.GraphEither", spec := "graphEither", unfollowed := true, recurses := true, plainKeys := false, apart := false, narrowed := true }
def GraphEitherUptoSaid : Prop := graphEitherUptoRow.holds Try.pinned (OpenSpec.upto graphEitherSpec)

/-- 'lanelaw1.FacesNest', WHERE WHAT IT READS IS OF BULK AT MOST 1048576: true; the input reads as it did. -/
def facesNestUptoRow : OpenClaim := { program := "ytecfgepomcnenaa", sum := "0eb724a976b3fa13aa7e32d324a3697e2f632216a8bb6ce697926dc5d99119ca", func := "locklane/lanelaw1.FacesNest", spec := "facesNest", unfollowed := true, recurses := true, plainKeys := false, apart := false, narrowed := true }
def FacesNestUptoSaid : Prop := facesNestUptoRow.holds Try.pinned (OpenSpec.upto facesNestSpec)

end Rows
end Go.Proofs.Ytecfgepomcnenaa
