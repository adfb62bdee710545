
/-
  A slice of edges that the call owns.
-/
import Derived.Test.YtecfgepomcnenaaDoorSrc
namespace Go.Proofs.YtecfgepomcnenaaDoor
open Go.RowKit
theorem slt_edge : SlT Tryd.prog 24 29 2 16 := slt_of (z := .agg #[.int .i64 0, .int .i64 0]) Tryd.underlying24 (by kernel_rfl) (by kernel_rfl) (by decide) (by decide)
end Go.Proofs.YtecfgepomcnenaaDoor
