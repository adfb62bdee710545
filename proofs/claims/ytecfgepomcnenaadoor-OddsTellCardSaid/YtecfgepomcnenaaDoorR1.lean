
/-
  CONTRACTS of the references' small functions over histories and numbers.
-/
import Derived.Test.YtecfgepomcnenaaDoorBase
namespace Go.Proofs.YtecfgepomcnenaaDoor
open Go.RowKit

def endGo (tx : Int) : List HOp → Int
  | [] => 0
  | o :: t => if o.tx = tx ∧ 3 ≤ o.what then o.what else endGo tx t

set_option maxHeartbeats 400000 in
theorem end_any (A : Option Addr) (n cap : Nat) (h : List HOp) (tx : Int) (k0 : Nat) (w : World) (B : Nat) (hr : Rd w B 3 A n (cellsH h)) (hat : k0 ≤ n) (hm : n ≤ 1000000000) :
    Calls Tryd.prog 57 #[.slice A n cap, .int .i64 tx, .int .i64 k0] w fun e w' => e = .returned (.int .i64 (endGo tx (h.take k0))) ∧ w = w' := by
  have hl := hr.hlen
  have HL := Lib.hid hl; clear hl
  go_enter Tryd.func57, Tryd.ntmps57
  go_wp2
  go_loop [7] (fun i => ∃ k : Nat, k ≤ k0 ∧ i = .int .i64 k ∧ Hid (endGo tx (h.take k0) = endGo tx ((h.take k0).drop k))) (fun i => k0 - (intOf i).toNat)
  case atStart => exact ⟨0, Nat.zero_le _, rfl, rfl⟩
  case round =>
    obtain ⟨k, hk, rfl, HE⟩ := hrel
    by_cases hlt : k < k0
    · obtain ⟨b, off, o, he, hb, ho, c0, c1, c2⟩ := hr.op (k := k) (by omega)
      cases he
      have HO : Hid ((h.take k0).drop k = o :: (h.take k0).drop (k + 1)) := drop_at (by rw [List.getElem?_take, if_pos hlt]; exact ho)
      clear ho
      by_cases h1 : o.tx = tx
      · by_cases h2 : 3 ≤ o.what
        · have HF : Hid (endGo tx (h.take k0) = o.what) := Lib.hid (by rw [HE.out, HO.out]; simp [endGo, h1, h2])
          go_wp2
          go_ret
          exact ⟨ret_int HF.out.symm, rfl⟩
        · have HF : Hid (endGo tx (h.take k0) = endGo tx ((h.take k0).drop (k + 1))) := Lib.hid (by rw [HE.out, HO.out]; simp [endGo, h2])
          go_wp2
          go_round
          case rel => exact ⟨k + 1, by omega, by go_num, HF⟩
          case measure => simp [intOf]; omega
      · have HF : Hid (endGo tx (h.take k0) = endGo tx ((h.take k0).drop (k + 1))) := Lib.hid (by rw [HE.out, HO.out]; simp [endGo, h1])
        go_wp2
        go_round
        case rel => exact ⟨k + 1, by omega, by go_num, HF⟩
        case measure => simp [intOf]; omega
    · have HF : Hid (endGo tx (h.take k0) = 0) := Lib.hid (by rw [HE.out, drop_end (by simp; omega)]; rfl)
      go_wp2
      go_ret
      exact ⟨ret_int HF.out.symm, rfl⟩
end Go.Proofs.YtecfgepomcnenaaDoor
