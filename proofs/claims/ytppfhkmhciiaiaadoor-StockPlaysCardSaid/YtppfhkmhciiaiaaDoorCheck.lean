
/-
  CONTRACTS of history.Check, Right.
-/
import Derived.Test.YtppfhkmhciiaiaaDoorBase
import Derived.Deep.RegionHeld3
import Derived.Deep.LoopGhost

namespace Go.Proofs.YtppfhkmhciiaiaaDoor
open Go.RowKit

def errV (e : Int) : Value := if e = 0 then .nilIface else .iface 41 (.int .i64 e)
def checkGo (es : List Bool) (i : Nat) : List HOp → Nat × Int
  | [] => (0, 0)
  | o :: t => if rightB o = false then (i, 1) else if es.getD o.tx.toNat false = true then (i, 6) else checkGo (es.set o.tx.toNat (endsB o)) (i + 1) t
def checkF (h : List HOp) : Nat × Int := if 40 < h.length then (0, 4) else checkGo (List.replicate 7 false) 0 h

end Go.Proofs.YtppfhkmhciiaiaaDoor
