
/-
  PLAIN LAW: the reference's edges from who read to who wrote.
  CONTRACT of the reference's laneref1.Edges: the edges between deals that are done.
-/
import Derived.Test.YtfmdeahblaikoaaGreatDoorRR0
import Derived.Test.YtfmdeahblaikoaaGreatDoorVD1
import Derived.Test.YtfmdeahblaikoaaGreatDoorRR1
import Derived.Test.YtfmdeahblaikoaaGreatDoorM1
import Derived.StillTailTactics

namespace Go.Proofs.YtfmdeahblaikoaaGreatDoor
open Go.RowKit

def inA (a b : Dl) (l : List Int) : List (Int × Int) := (l.filter (readD a)).map fun _ => (a.tx, b.tx)
def antiQ (a b : Dl) : Bool := !decide (a.tx = b.tx) && atOnceD a b
def rowA (a : Dl) (l : List Dl) : List (Int × Int) := l.flatMap fun b => if antiQ a b = true then inA a b b.wrote else []
def allA (ds l : List Dl) : List (Int × Int) := l.flatMap fun a => rowA a ds
theorem inA_step {a b : Dl} {x : Int} {l t : List Int} (e : l = x :: t) : inA a b l = if readD a x = true then (a.tx, b.tx) :: inA a b t else inA a b t := by
  rw [e]
  unfold inA
  cases h : readD a x
  · rw [List.filter_cons_of_neg (by simp [h])]; simp
  · rw [List.filter_cons_of_pos h]; simp
theorem rowA_step {a b : Dl} {l t : List Dl} (e : l = b :: t) : rowA a l = (if antiQ a b = true then inA a b b.wrote else []) ++ rowA a t := by rw [e]; rfl
theorem allA_step {ds : List Dl} {a : Dl} {l t : List Dl} (e : l = a :: t) : allA ds l = rowA a ds ++ allA ds t := by rw [e]; rfl
theorem anti_raw (ds : List Dl) : sortS ltE (allA ds ds) = sortS ltE (rawP antiD ds) := by
  refine up_ext sloE (up_sortS sloE _) (up_sortS sloE _) fun x => ?_
  rw [mem_sortS, mem_sortS, mem_rawP]
  unfold allA rowA
  rw [List.mem_flatMap]
  constructor
  · rintro ⟨a, ha, h⟩
    obtain ⟨b, hb, h⟩ := List.mem_flatMap.1 h
    split at h
    · rename_i hq
      obtain ⟨i, hi, rfl⟩ := List.mem_map.1 h
      obtain ⟨hi, hr⟩ := List.mem_filter.1 hi
      refine ⟨a, ha, b, hb, ?_, rfl⟩
      unfold antiQ at hq
      unfold antiD
      rw [hq]
      exact List.any_eq_true.2 ⟨i, hi, hr⟩
    · cases h
  · rintro ⟨a, ha, b, hb, hp, rfl⟩
    unfold antiD at hp
    rw [Bool.and_eq_true] at hp
    obtain ⟨i, hi, hr⟩ := List.any_eq_true.1 hp.2
    refine ⟨a, ha, List.mem_flatMap.2 ⟨b, hb, ?_⟩⟩
    rw [if_pos (show antiQ a b = true from hp.1)]
    exact List.mem_map.2 ⟨i, List.mem_filter.2 ⟨hi, hr⟩, rfl⟩
end Go.Proofs.YtfmdeahblaikoaaGreatDoor


namespace Go.Proofs.YtfmdeahblaikoaaGreatDoor
open Go.RowKit

theorem sortGo_step (acc : List (Int × Int)) (x : Int × Int) (l : List (Int × Int)) : sortGo ltE acc (x :: l) = sortGo ltE (insS ltE x acc) l := rfl
def rowE (a : HOp) (l : List HOp) : List (Int × Int) := (l.filter (oddB a)).map fun b => (a.tx, b.tx)
theorem rowE_step {a b : HOp} {l t : List HOp} (e : l = b :: t) : rowE a l = if oddB a b = true then (a.tx, b.tx) :: rowE a t else rowE a t := by
  rw [e]
  unfold rowE
  cases h : oddB a b
  · rw [List.filter_cons_of_neg (by simp [h])]; simp
  · rw [List.filter_cons_of_pos h]; simp
theorem edgeP_step {a : HOp} {l t : List HOp} (e : l = a :: t) : edgeP l = rowE a t ++ edgeP t := by rw [e, edgeP]; rfl

end Go.Proofs.YtfmdeahblaikoaaGreatDoor
