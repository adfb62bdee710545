
/-
  CONTRACTS of play.play, Values, Seen.
-/
import Derived.Test.YtmamejkdheigjaaGreatDoorDone
import Derived.Deep.LoopGhost

namespace Go.Proofs.YtmamejkdheigjaaGreatDoor
open Go.RowKit

def playGo (vs seen : List Int) (ds : List (Int × Int)) : List HOp → List Int × List Int
  | [] => (vs, seen)
  | o :: t =>
    if o.what = 1 then playGo vs (seen ++ [vs.getD (o.item.toNat - 1) 0]) (ds.set o.tx.toNat ((ds.getD o.tx.toNat (0, 0)).1 + 1, (ds.getD o.tx.toNat (0, 0)).2 + vs.getD (o.item.toNat - 1) 0)) t
    else if o.what = 2 then playGo (vs.set (o.item.toNat - 1) ((7 * o.tx + ((ds.getD o.tx.toNat (0, 0)).1 + 1) + (ds.getD o.tx.toNat (0, 0)).2) % 1000003)) seen (ds.set o.tx.toNat ((ds.getD o.tx.toNat (0, 0)).1 + 1, (ds.getD o.tx.toNat (0, 0)).2)) t
    else playGo vs seen (ds.set o.tx.toNat ((ds.getD o.tx.toNat (0, 0)).1 + 1, (ds.getD o.tx.toNat (0, 0)).2)) t
def playF (h : List HOp) : List Int × List Int := playGo (List.replicate 6 0) [] (List.replicate 7 (0, 0)) (doneL h)

def dcells (ds : List (Int × Int)) : List Value := ds.flatMap fun d => [.int .i64 d.1, .int .i64 d.2]
theorem dcells_at {ds : List (Int × Int)} {k : Nat} {d : Int × Int} (hk : ds[k]? = some d) : (dcells ds)[k * 2]? = some (.int .i64 d.1) ∧ (dcells ds)[k * 2 + 1]? = some (.int .i64 d.2) := by
  induction ds generalizing k with
  | nil => simp at hk
  | cons p t ih =>
    have e : dcells (p :: t) = [.int .i64 p.1, .int .i64 p.2] ++ dcells t := rfl
    cases k with
    | zero =>
      obtain rfl : p = d := by simpa using hk
      rw [e]; simp
    | succ k =>
      have hk' := ih (k := k) (by simpa using hk)
      have e0 : (k + 1) * 2 = k * 2 + 2 := by omega
      rw [e, e0]
      refine ⟨?_, ?_⟩ <;> rw [List.getElem?_append_right (by simp)]
      · exact hk'.1
      · exact hk'.2
theorem dcells_set (ds : List (Int × Int)) (i : Nat) (d : Int × Int) : ((dcells ds).set (i * 2) (.int .i64 d.1)).set (i * 2 + 1) (.int .i64 d.2) = dcells (ds.set i d) := by
  induction ds generalizing i with
  | nil => rfl
  | cons p t ih =>
    have e : dcells (p :: t) = [.int .i64 p.1, .int .i64 p.2] ++ dcells t := rfl
    cases i with
    | zero => rfl
    | succ i =>
      have e2 : dcells ((p :: t).set (i + 1) d) = [.int .i64 p.1, .int .i64 p.2] ++ dcells (t.set i d) := rfl
      have e0 : (i + 1) * 2 = i * 2 + 2 := by omega
      rw [e, e2, ← ih, e0]
      simp
theorem dcells_set1 (ds : List (Int × Int)) (i : Nat) (d d' : Int × Int) (hi : ds[i]? = some d) (h2 : d'.2 = d.2) : (dcells ds).set (i * 2) (.int .i64 d'.1) = dcells (ds.set i d') := by
  rw [← dcells_set, h2]
  have := (dcells_at hi).2
  have hl : i * 2 + 1 < (dcells ds).length := (List.getElem?_eq_some_iff.1 this).1
  have h3 : ((dcells ds).set (i * 2) (Value.int IntKind.i64 d'.1))[i * 2 + 1]? = some (.int .i64 d.2) := by rw [List.getElem?_set_ne (by omega)]; exact this
  obtain ⟨h4, h5⟩ := List.getElem?_eq_some_iff.1 h3
  rw [← h5, List.set_getElem_self]

theorem bds_set {ds : List (Int × Int)} {k : Nat} {i : Nat} {d : Int × Int} (h : ∀ d ∈ ds, 0 ≤ d.1 ∧ d.1 ≤ k ∧ 0 ≤ d.2 ∧ d.2 ≤ k * 1000003) (hd : 0 ≤ d.1 ∧ d.1 ≤ (k + 1 : Nat) ∧ 0 ≤ d.2 ∧ d.2 ≤ (k + 1 : Nat) * 1000003) :
    ∀ d' ∈ ds.set i d, 0 ≤ d'.1 ∧ d'.1 ≤ (k + 1 : Nat) ∧ 0 ≤ d'.2 ∧ d'.2 ≤ (k + 1 : Nat) * 1000003 := by
  intro d' hd'
  rcases List.mem_or_eq_of_mem_set hd' with h1 | rfl
  · have := h d' h1; omega
  · exact hd
theorem make6 (w : World) : (Instr.makeSlice 26 (.int .i64 6) (.int .i64 6)).run Tryz.prog w = .ok (.slice (some ⟨w.heap.size, 0, none⟩) 6 6) (w.alloc (.cells #[.int .i64 0, .int .i64 0, .int .i64 0, .int .i64 0, .int .i64 0, .int .i64 0] 3)) := by kernel_rfl

theorem ne_errV {e : Int} (h : e ≠ 0) : errV e = .iface 51 (.int .i64 e) := if_neg h
theorem errV_zero : errV 0 = .nilIface := rfl

end Go.Proofs.YtmamejkdheigjaaGreatDoor
