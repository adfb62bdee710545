
/-
  CONTRACTS of the references' small functions over histories and numbers.
-/
import Derived.Test.YtkpnpkikonlmpaaBase

namespace Go.Proofs.Ytkpnpkikonlmpaa
open Go.RowKit

def endGo (tx : Int) : List HOp → Int
  | [] => 0
  | o :: t => if o.tx = tx ∧ 3 ≤ o.what then o.what else endGo tx t

end Go.Proofs.Ytkpnpkikonlmpaa
