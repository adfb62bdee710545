
/-
  CONTRACTS of snap.See, snap.May in a run's heap.
-/
import Derived.Test.YtfmdeahblaikoaaDoorValidF

namespace Go.Proofs.YtfmdeahblaikoaaDoor
open Go.RowKit

end Go.Proofs.YtfmdeahblaikoaaDoor
