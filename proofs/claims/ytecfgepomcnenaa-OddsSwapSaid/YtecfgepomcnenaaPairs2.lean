
/-
  A slice of edges that the call owns.
-/
import Derived.Test.YtecfgepomcnenaaSrc
namespace Go.Proofs.Ytecfgepomcnenaa
open Go.RowKit
theorem slt_edge : SlT Try.prog 31 43 2 16 := slt_of (z := .agg #[.int .i64 0, .int .i64 0]) Try.underlying31 (by kernel_rfl) (by kernel_rfl) (by decide) (by decide)
end Go.Proofs.Ytecfgepomcnenaa
