
/-
  PLAIN FACT: where a deal ends nothing of it comes behind.
-/
import Derived.Test.YtjbgjgmdgjnbfaaDoorM1
import Derived.Test.YtjbgjgmdgjnbfaaDoorAlikeP
import Derived.Test.YtjbgjgmdgjnbfaaDoorN1

namespace Go.Proofs.YtjbgjgmdgjnbfaaDoor
open Go.RowKit

theorem end_at {h : List HOp} (hk : okH h) {k : Nat} {o : HOp} (ho : h[k]? = some o) : ∀ (j : Nat) (x : HOp), h[j]? = some x → x.tx = o.tx → 3 ≤ x.what → k ≤ j := by
  intro j x hx ht hw
  rcases Nat.lt_or_ge j k with hlt | hge
  · exfalso
    have hd : h = h.take k ++ o :: h.drop (k + 1) := split_at ho
    obtain ⟨_, hn⟩ := okH_after (a := h.take k) (r := h.drop (k + 1)) (o := o) (by rw [← hd]; exact hk)
    have hm : x ∈ h.take k := List.mem_iff_getElem?.2 ⟨j, by rw [List.getElem?_take, if_pos hlt]; exact hx⟩
    unfold endIn at hn
    have := List.any_eq_false.1 hn x hm
    simp at this
    exact absurd hw (by have := this ht; omega)
  · exact hge
end Go.Proofs.YtjbgjgmdgjnbfaaDoor
