
/-
  CONTRACTS of laneref1.Done, Play where the ops are right.
  CONTRACTS of the references' laneref1.Odds, Add, Of, place: two ops at odds; an edge put into some that are sorted; a deal's ops; the place of its n-th op.
  CONTRACT of the reference's laneref1.Add: an edge put into some that are sorted, once.
  CONTRACT of lanesame.Edges: whether two lists of edges are the same.
-/
import Derived.Test.YtcdinhmdeaplgaaGreatDoorQ21
import Derived.Test.YtcdinhmdeaplgaaGreatDoorCompE
import Derived.Test.YtcdinhmdeaplgaaGreatDoorQ10
import Derived.Test.YtcdinhmdeaplgaaGreatDoorQ23
import Derived.BigQuiet
import Derived.Test.YtcdinhmdeaplgaaGreatDoorQ8

namespace Go.Proofs.YtcdinhmdeaplgaaGreatDoor
open Go.RowKit

theorem filter_snoc {α : Type} (p : α → Bool) {h : List α} {k : Nat} {o : α} (ho : h[k]? = some o) : (h.take (k + 1)).filter p = if p o = true then (h.take k).filter p ++ [o] else (h.take k).filter p := by
  rw [List.take_add_one, ho, List.filter_append]
  cases hp : p o <;> simp [hp]

set_option maxHeartbeats 1000000 in
theorem rdone_any (A : Option Addr) (n cap : Nat) (h : List HOp) (w : World) (hr : Rd w w.heap.size 3 A n (cellsH h)) (hok : okH h) :
    Calls Tryz.prog 8 #[.slice A n cap] w fun e w' => ∃ A' m c', e = .returned (.slice A' m c') ∧ w'.ownsRow w.heap.size 50 3 (.slice A' m c') m (cellsH (doneL h)) ∧ Below w.heap.size w w' := by
  have hl := hr.hlen
  have hm : n ≤ 40 := by rw [← hl]; exact okH_len hok
  have HD := Lib.hid (doneL_eq hok)
  have HTK : Hid (h.take n = h) := Lib.hid (List.take_of_length_le (by omega))
  clear hl hok
  go_enter Tryz.func8, Tryz.ntmps8
  go_wp2
  go_loopw [3, 4] (fun s3 s4 wr => ∃ k m : Nat, k ≤ n ∧ s4 = .int .i64 k ∧ wr.ownsRow w.heap.size 50 3 s3 m (cellsH ((h.take k).filter fun o => decide (endGo o.tx h = 3))) ∧ m ≤ k ∧ Below w.heap.size w wr) (fun _ s4 _ => n - (intOf s4).toNat)
  case atStart => exact ⟨0, 0, Nat.zero_le _, rfl, World.ownsRow_nil _ _ _ _, Nat.zero_le _, Below.refl _ _⟩
  case round =>
    obtain ⟨k, m, hk, rfl, ho3, hmk, hbw⟩ := hrel
    obtain ⟨A3, c3, rfl⟩ := own_slice ho3
    have hz := hbw.size
    by_cases hlt : k < n
    · have hrw := (hr.below hbw).more hz
      obtain ⟨b, off, o, he, hb, ho, c0, c1, c2⟩ := hrw.op (k := k) hlt
      cases he
      have HF := Lib.hid (filter_snoc (fun o => decide (endGo o.tx h = 3)) ho)
      clear ho
      obtain ⟨tx, what, item⟩ := o
      by_cases he : endGo tx h = 3
      · have HE := Lib.hid he
        have HF2 : Hid ((h.take (k + 1)).filter (fun o => decide (endGo o.tx h = 3)) = (h.take k).filter (fun o => decide (endGo o.tx h = 3)) ++ [⟨tx, what, item⟩]) := Lib.hid (by rw [HF.out]; simp [he])
        clear he
        go_wp2_with fail
        refine (end_any _ n cap h tx n wr _ hrw (Nat.le_refl _) (by omega)).mono ?_
        rw [HTK.out, HE.out]
        rintro e w1 ⟨rfl, rfl⟩
        go_wp2_with (at_builtin; (refine wpList_app rfl (.tmp 21) (.tmp 26) _ rfl w.heap.size slt_op (n := m) (xs := cellsH ((h.take k).filter fun o => decide (endGo o.tx h = 3))) (m := 1) (news := cellsH [⟨tx, what, item⟩]) rfl (own_alloc ho3 _) rfl (rd_new' _ _ (cellsH [⟨tx, what, item⟩]) (by simp) rfl) (oneH _) (by omega) (by simp; omega) ?_; intro v5 w5 hown5 hg5 hb5 hat5 hne5))
        have hbw5 : Below w.heap.size w w5 := (hbw.alloc hz _).trans hb5
        rw [← cellsH_append, ← HF2.out] at hown5
        go_roundw
        case rel => exact ⟨k + 1, m + 1, by omega, by go_num, hown5, by omega, hbw5⟩
        case measure => simp [intOf]; omega
      · have HF2 : Hid ((h.take (k + 1)).filter (fun o => decide (endGo o.tx h = 3)) = (h.take k).filter (fun o => decide (endGo o.tx h = 3))) := Lib.hid (by rw [HF.out]; simp [he])
        have he2 : (endGo tx h == 3) = false := by simpa using he
        clear he
        go_wp2_with fail
        refine (end_any _ n cap h tx n wr _ hrw (Nat.le_refl _) (by omega)).mono ?_
        rw [HTK.out]
        rintro e w1 ⟨rfl, rfl⟩
        go_wp2
        go_roundw
        case rel => exact ⟨k + 1, m, by omega, by go_num, by rw [HF2.out]; exact ho3, by omega, hbw⟩
        case measure => simp [intOf]; omega
    · have HF : Hid (wr.ownsRow w.heap.size 50 3 (.slice A3 m c3) m (cellsH (doneL h))) := Lib.hid (by
        rw [HD.out]
        have hkn : k = n := by omega
        rw [hkn, HTK.out] at ho3; exact ho3)
      clear ho3
      go_wp2
      go_ret
      exact ⟨A3, m, c3, rfl, HF.out, hbw⟩

theorem fst_set (ds : List (Int × Int)) (i : Nat) (d : Int × Int) : cellsI ((ds.set i d).map Prod.fst) = (cellsI (ds.map Prod.fst)).set i (.int .i64 d.1) := by simp [cellsI, List.map_set]
theorem snd_set (ds : List (Int × Int)) (i : Nat) (d : Int × Int) : cellsI ((ds.set i d).map Prod.snd) = (cellsI (ds.map Prod.snd)).set i (.int .i64 d.2) := by simp [cellsI, List.map_set]
theorem snd_same {ds : List (Int × Int)} {i : Nat} {d d' : Int × Int} (h : ds[i]? = some d) (h2 : d'.2 = d.2) : cellsI ((ds.set i d').map Prod.snd) = cellsI (ds.map Prod.snd) := by
  rw [snd_set]; exact set_same (by rw [cellsI, List.getElem?_map, List.getElem?_map, h, h2]; rfl)

theorem rseen_le (l : List HOp) : ∀ (vs seen : List Int) (ds : List (Int × Int)), (playGo vs seen ds l).2.length ≤ seen.length + l.length := by
  induction l with
  | nil => intros; simp [playGo]
  | cons o r ih =>
    intro vs seen ds
    unfold playGo
    split
    · refine Nat.le_trans (ih _ _ _) (by simp; omega)
    · split
      · exact Nat.le_trans (ih _ _ _) (by simp)
      · exact Nat.le_trans (ih _ _ _) (by simp)
theorem rseen_len {h : List HOp} (hk : okH h) : (playF h).2.length ≤ 40 := by
  have h1 := rseen_le (doneL h) (List.replicate 6 0) [] (List.replicate 7 (0, 0))
  have h2 : (doneL h).length ≤ h.length := List.length_filter_le _ _
  have h3 : (playF h).2 = (playGo (List.replicate 6 0) [] (List.replicate 7 (0, 0)) (doneL h)).2 := rfl
  have := okH_len hk
  rw [h3]; simp only [List.length_nil] at h1; omega
end Go.Proofs.YtcdinhmdeaplgaaGreatDoor


namespace Go.Proofs.YtcdinhmdeaplgaaGreatDoor
open Go.RowKit

/-! ### The place of a deal's n-th op. -/
def placeGo (t : Int) (i : Int) : Int → List HOp → Int
  | _, [] => -1
  | n, o :: r => if o.tx = t then (if n = 0 then i else placeGo t (i + 1) (n - 1) r) else placeGo t (i + 1) n r
def placeF (h : List HOp) (t n : Int) : Int := placeGo t 0 n h
theorem placeGo_step {t i n : Int} {o : HOp} {l r : List HOp} (e : l = o :: r) : placeGo t i n l = if o.tx = t then (if n = 0 then i else placeGo t (i + 1) (n - 1) r) else placeGo t (i + 1) n r := by rw [e, placeGo]
end Go.Proofs.YtcdinhmdeaplgaaGreatDoor


namespace Go.Proofs.YtcdinhmdeaplgaaGreatDoor
open Go.RowKit

theorem insE_step {x y : Int × Int} {l t : List (Int × Int)} (h : l = y :: t) : insS ltE x l = if ltE y x = true then y :: insS ltE x t else if y = x then y :: t else x :: y :: t := by
  rw [h, insS]
theorem Rd.takeD {w : World} {B n : Nat} {A : Option Addr} {l : List (Int × Int)} (h : Rd w B 2 A n (dcells l)) {k : Nat} (hk : k ≤ n) : Rd w B 2 A k (dcells (l.take k)) := by
  refine ⟨by rw [dcells_length, List.length_take, h.dlen]; omega, fun h0 => ?_⟩
  obtain ⟨b, off, hA, hb, hc⟩ := h.2 (by omega)
  refine ⟨b, off, hA, hb, fun j u hu => hc j u ?_⟩
  rw [← dcells_take, List.getElem?_take] at hu
  split at hu
  · exact hu
  · cases hu
theorem Rd.dropD {w : World} {B n b off : Nat} {l : List (Int × Int)} (h : Rd w B 2 (some ⟨b, off, none⟩) n (dcells l)) {k : Nat} (hk : k < n) : Rd w B 2 (some ⟨b, off + k * 2, none⟩) (n - k) (dcells (l.drop k)) := by
  refine ⟨by rw [dcells_length, List.length_drop, h.dlen], fun h0 => ?_⟩
  obtain ⟨b', off', hA, hb, hc⟩ := h.2 (by omega)
  cases hA
  refine ⟨b, off + k * 2, rfl, hb, fun j u hu => ?_⟩
  have e : (dcells l)[k * 2 + j]? = some u := by
    have h1 : dcells l = dcells (l.take k) ++ dcells (l.drop k) := by rw [← dcells_append, List.take_append_drop]
    rw [h1, List.getElem?_append_right (by rw [dcells_length, List.length_take, h.dlen]; omega)]
    rw [dcells_length, List.length_take, h.dlen, Nat.min_eq_left (by omega), Nat.add_sub_cancel_left]
    exact hu
  have := hc _ u e
  rwa [Nat.add_assoc]
theorem own_cap2 {w : World} {base : Nat} {e : TypeId} {size : Nat} {A : Option Addr} {n c : Nat} {xs : List Value} (h : w.ownsRow base e size (.slice A n c) n xs) : n ≤ c := by
  rcases h.2 with ⟨hv, h0⟩ | ⟨_, _, _, hv, _, _, hnc, _⟩
  · omega
  · injection hv with _ _ hc; omega
end Go.Proofs.YtcdinhmdeaplgaaGreatDoor


namespace Go.Proofs.YtcdinhmdeaplgaaGreatDoor
open Go.RowKit

end Go.Proofs.YtcdinhmdeaplgaaGreatDoor
