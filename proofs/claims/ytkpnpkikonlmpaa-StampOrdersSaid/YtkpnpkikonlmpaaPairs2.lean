
/-
  A slice of edges that the call owns.
-/
import Derived.Test.YtkpnpkikonlmpaaSrc
namespace Go.Proofs.Ytkpnpkikonlmpaa
open Go.RowKit
theorem slt_edge : SlT Try.prog 40 50 2 16 := slt_of (z := .agg #[.int .i64 0, .int .i64 0]) Try.underlying40 (by kernel_rfl) (by kernel_rfl) (by decide) (by decide)
end Go.Proofs.Ytkpnpkikonlmpaa
