
/-
  CONTRACT of tree.Edges.
-/
import Derived.Test.YtfmdeahblaikoaaDoorTreeL
import Derived.Test.YtfmdeahblaikoaaDoorM7

namespace Go.Proofs.YtfmdeahblaikoaaDoor
open Go.RowKit

def rowG (a : GOp) (m : List GOp) : List (Int × Int) := (m.filter (pairG a)).map fun b => (a.tx, b.tx)
theorem rowG_step {a b : GOp} {l t : List GOp} (h : l = b :: t) : rowG a l = if pairG a b = true then (a.tx, b.tx) :: rowG a t else rowG a t := by
  rw [h]
  unfold rowG
  cases hp : pairG a b
  · rw [List.filter_cons_of_neg (by simp [hp])]; simp
  · rw [List.filter_cons_of_pos hp]; simp
theorem rawG_step {a : GOp} {l t : List GOp} (h : l = a :: t) : rawG l = rowG a t ++ rawG t := by rw [h]; rfl
theorem legal_len {up : List Int} {l : List GOp} (h : (legalF up l).2 = 0) : l.length ≤ 40 := by
  unfold legalF at h
  split at h
  · rename_i h1; exact absurd h h1
  · split at h
    · cases h
    · omega
theorem tedges_no (Au : Option Addr) (nu cu : Nat) (up : List Int) (Al : Option Addr) (nl cl : Nat) (l : List GOp) (w : World) (hu : Rd w w.heap.size 1 Au nu (cellsI up)) (hcap : nu ≤ cu) (hr : Rd w w.heap.size 3 Al nl (cellsG l)) (hml : nl ≤ 1000000000000000) (hno : (legalF up l).2 ≠ 0) :
    Calls Tryd.prog 27 #[.slice Au nu cu, .slice Al nl cl] w fun e w' => e = .returned (.tuple #[.slice none 0 0, errV (legalF up l).2]) ∧ Below w.heap.size w w' := by
  have CL := hide (legal_any Au nu cu up Al nl cl l w hu hcap hr hml)
  have HN := Lib.hid hno
  rw [ne_errV hno] at CL
  generalize legalF up l = lg at *
  obtain ⟨at_, ev⟩ := lg
  simp only at CL HN
  clear hno hu hr
  go_enter Tryd.func27, Tryd.ntmps27
  go_wp2_with fail
  refine (unhide CL).mono ?_
  rintro e w1 ⟨rfl, hb1⟩
  go_wp2
  go_ret2
  exact ⟨by simp only [ne_errV HN.out]; rfl, hb1⟩

set_option maxRecDepth 100000 in
set_option maxHeartbeats 8000000 in
theorem tedges_any (Au : Option Addr) (nu cu : Nat) (up : List Int) (Al : Option Addr) (nl cl : Nat) (l : List GOp) (w : World) (hu : Rd w w.heap.size 1 Au nu (cellsI up)) (hcap : nu ≤ cu) (hr : Rd w w.heap.size 3 Al nl (cellsG l)) (hcl : nl ≤ cl) (hml : nl ≤ 1000000000000000) (hok : (legalF up l).2 = 0) :
    Calls Tryd.prog 27 #[.slice Au nu cu, .slice Al nl cl] w fun e w' => ∃ A' m c', e = .returned (.tuple #[.slice A' m c', .nilIface]) ∧ Rd w' w'.heap.size 2 A' m (dcells (edgesG l)) ∧ m ≤ 2000 ∧ Below w.heap.size w w' := by
  have CL := hide (legal_any Au nu cu up Al nl cl l w hu hcap hr hml)
  have HR := hide (fun w' (hb : Below w.heap.size w w') => hr.below hb)
  have HLL := Lib.hid hr.glen
  have h40 : nl ≤ 40 := by rw [← hr.glen]; exact legal_len hok
  have HF : Hid (rawG l = [] ++ rawG (l.drop 0)) := Lib.hid rfl
  rw [hok, show errV 0 = .nilIface from rfl] at CL
  generalize (legalF up l).1 = at_ at *
  clear hok hu hr
  go_enter Tryd.func27, Tryd.ntmps27
  go_wp2_with fail
  refine (unhide CL).mono ?_
  rintro e w1 ⟨rfl, hb1⟩
  go_wp2
  go_loopw [8, 9, 10, 12, 24, 34] (fun s8 _ _ _ s24 _ wr => ∃ (k m : Nat) (acc : List (Int × Int)), k ≤ nl ∧ s24 = .int .i64 k ∧ m ≤ k * 40 ∧ wr.ownsRow w.heap.size 124 2 s8 m (dcells acc) ∧ Hid (rawG l = acc ++ rawG (l.drop k)) ∧ Below w.heap.size w wr) (fun _ _ _ _ s24 _ _ => nl - (intOf s24).toNat)
  case atStart => exact ⟨0, 0, [], Nat.zero_le _, rfl, Nat.zero_le _, World.ownsRow_nil _ _ _ _, HF, hb1⟩
  case round =>
    clear HF hb1
    obtain ⟨k, m, acc, hk, rfl, hmk, ho, HE, hbw⟩ := hrel
    obtain ⟨A8, c8, rfl⟩ := own_slice ho
    by_cases hlt : k < nl
    · obtain ⟨b, off, q, he, hb, hq, c0, c1, c2⟩ := (unhide HR wr hbw).grip (k := k) hlt
      cases he
      have HE2 : Hid (rawG l = acc ++ (rowG q (l.drop (k + 1)) ++ rawG (l.drop (k + 1)))) := Lib.hid (by rw [HE.out, rawG_step (drop_at hq)])
      obtain ⟨tx, item, lock⟩ := q
      simp only at c0 c1 c2
      have hbx : Below wr.heap.size wr (wr.alloc (.cells #[.int .i64 tx, .int .i64 item, .bool lock] 115)) := (Below.refl _ _).alloc (Nat.le_refl _) _
      have hox := own_alloc ho (.cells #[.int .i64 tx, .int .i64 item, .bool lock] 115)
      have hbw1 := hbw.trans (hbx.mono hbw.size)
      have hBx := Blk.new wr 115 [.int .i64 tx, .int .i64 item, .bool lock]
      obtain ⟨REST, hREST⟩ : ∃ REST, rawG (l.drop (k + 1)) = REST := ⟨_, rfl⟩
      rw [hREST] at HE2
      have HRT := Lib.hid hREST
      clear hq hbx HE hREST
      obtain ⟨wo, rfl⟩ : ∃ wo : World, wo = wr := ⟨_, rfl⟩
      have hKl : ∀ j : Nat, k + 1 + j ≤ nl → Hid (k + 1 + j ≤ 40) := fun j hj => Lib.hid (by omega)
      clear hKl
      obtain ⟨p, hp⟩ : ∃ p : Nat, nl = k + 1 + p := ⟨nl - (k + 1), by omega⟩
      by_cases hc : cl = k + 1
      · obtain rfl : p = 0 := by omega
        have HE3 : Hid (rawG l = acc ++ rawG (l.drop (k + 1))) := Lib.hid (by
          have e : l.drop (k + 1) = [] := drop_end (by rw [HLL.out]; omega)
          rw [HE2.out, ← HRT.out, e]; rfl)
        have HX := hide hox
        subst hp
        subst hc
        clear HE2 HRT ho
        go_wp2
        go_loopw [8, 12, 34] (fun s8 _ s34 wx => s8 = .slice A8 m c8 ∧ s34 = .int .i64 0 ∧ wx = wo.alloc (.cells #[.int .i64 tx, .int .i64 item, .bool lock] 115)) (fun _ _ _ _ => 0)
        case atStart => exact ⟨rfl, rfl, rfl⟩
        case round =>
          obtain ⟨rfl, rfl, rfl⟩ := hrel
          go_wp2
          go_roundw
          case rel => exact ⟨k + 1, m, acc, by omega, by go_num, by omega, unhide HX, HE3, hbw1⟩
          case measure => first | (simp [intOf]; omega) | simp [intOf]
      · have hc' : ¬ k + 1 = cl := fun e => hc e.symm
        have hc2 : k + 1 ≤ cl := by omega
        have e9 : nl - (k + 1) = p := by omega
        have e10 : (nl : Int) - ((k : Int) + 1) = (p : Int) := by omega
        have e11 : (k : Int) + 1 ≤ (nl : Int) := by omega
        have e12 : k + 1 ≤ nl := by omega
        have HP := Lib.hid hp
        clear hp
        have HC := Lib.hid (And.intro hc hc')
        go_wp2
        go_loopw [8, 12, 34] (fun s8 _ s34 wx => ∃ (j m2 : Nat) (acc2 : List (Int × Int)), j ≤ p ∧ s34 = .int .i64 j ∧ m2 ≤ m + j ∧ wx.ownsRow w.heap.size 124 2 s8 m2 (dcells acc2) ∧ Hid (rawG l = acc2 ++ (rowG ⟨tx, item, lock⟩ (l.drop (k + 1 + j)) ++ REST)) ∧ Blk wx wo.heap.size 115 [.int .i64 tx, .int .i64 item, .bool lock] ∧ Below w.heap.size w wx) (fun _ _ s34 _ => p - (intOf s34).toNat)
        case atStart => exact ⟨0, m, acc, Nat.zero_le _, rfl, Nat.le_refl _, hox, HE2, hBx, hbw1⟩
        case round =>
          clear ho hox HE2 hBx hbw1 c0 c1 c2
          obtain ⟨j, m2, acc2, hj, rfl, hm2, ho2, HE2, hBx, hbw2⟩ := hrel
          obtain ⟨A9, c9, rfl⟩ := own_slice ho2
          by_cases hlt2 : j < p
          · obtain ⟨_, _, q, he, hb2, hq, d0, d1, d2⟩ := (unhide HR wr hbw2).grip (k := k + 1 + j) (by have := HP.out; omega)
            cases he
            have HS := Lib.hid (rowG_step (a := ⟨tx, item, lock⟩) (drop_at hq))
            obtain ⟨tx2, item2, lock2⟩ := q
            simp only at d0 d1 d2 HS
            rw [show off + (k + 1 + j) * 3 = off + (k + 1) * 3 + j * 3 by omega] at d0 d1 d2
            have hbx : Below wr.heap.size wr (wr.alloc (.cells #[.int .i64 tx2, .int .i64 item2, .bool lock2] 115)) := (Below.refl _ _).alloc (Nat.le_refl _) _
            have hox := own_alloc ho2 (.cells #[.int .i64 tx2, .int .i64 item2, .bool lock2] 115)
            have hbw3 := hbw2.trans (hbx.mono hbw2.size)
            have hBx2 := hBx.alloc (.cells #[.int .i64 tx2, .int .i64 item2, .bool lock2] 115)
            have hBy := Blk.new wr 115 [.int .i64 tx2, .int .i64 item2, .bool lock2]
            have x0 := hBx2.cellS (i := 0) (v := .int .i64 tx) rfl
            have x1 := hBx2.cellS (i := 1) (v := .int .i64 item) rfl
            have x2 := hBx2.cellS (i := 2) (v := .bool lock) rfl
            have hxl := hBx.lt
            have HOX := hide hox
            have HBX := hide hBx2
            have hz3 := hbw2.size
            have hm9 : m2 ≤ 4000 := by have := HP.out; omega
            clear hq hbx ho2 hBx hBx2 hox
            cases lock
            · have HN : Hid (rawG l = acc2 ++ (rowG ⟨tx, item, false⟩ (l.drop (k + 1 + (j + 1))) ++ REST)) := Lib.hid (by rw [HE2.out, HS.out, if_neg (by simp [pairG])]; rfl)
              go_wp2
              go_roundw
              case rel => exact ⟨j + 1, m2, acc2, by omega, by go_num, by omega, unhide HOX, HN, unhide HBX, hbw3⟩
              case measure => simp [intOf]; omega
            · cases lock2
              · have HN : Hid (rawG l = acc2 ++ (rowG ⟨tx, item, true⟩ (l.drop (k + 1 + (j + 1))) ++ REST)) := Lib.hid (by rw [HE2.out, HS.out, if_neg (by simp [pairG])]; rfl)
                go_wp2
                go_roundw
                case rel => exact ⟨j + 1, m2, acc2, by omega, by go_num, by omega, unhide HOX, HN, unhide HBX, hbw3⟩
                case measure => simp [intOf]; omega
              · by_cases hi : item = item2
                · have ti : (item == item2) = true := by simp [hi]
                  have HN : Hid (rawG l = (acc2 ++ [(tx, tx2)]) ++ (rowG ⟨tx, item, true⟩ (l.drop (k + 1 + (j + 1))) ++ REST)) := Lib.hid (by rw [HE2.out, HS.out, if_pos (by simp [pairG, hi])]; simp; rfl)
                  clear hi
                  go_wp2_with (at_builtin; ((refine wpList_app rfl (.tmp 51) (.tmp 57) _ rfl w.heap.size slt_edge (n := m2) (xs := dcells acc2) (m := 1) (news := dcells [(tx, tx2)]) rfl (own_alloc (unhide HOX) _) rfl (rd_new' _ _ (dcells [(tx, tx2)]) (by simp) rfl) (oneD _) (by omega) (by simp; omega) ?_)); intro v5 w5 hown5 hg5 hb5 hat5 hne5; obtain ⟨A5, c5, rfl⟩ := own_slice hown5)
                  have hbw5 := (hbw3.alloc hbw3.size (.cells (dcells [(tx, tx2)]).toArray 124)).trans hb5
                  have hB5 := ((unhide HBX).alloc (.cells (dcells [(tx, tx2)]).toArray 124)).other (own_alloc (unhide HOX) _) (by decide) hg5
                  rw [← dcells_append] at hown5
                  go_roundw
                  case rel => exact ⟨j + 1, m2 + 1, acc2 ++ [(tx, tx2)], by omega, by go_num, by omega, hown5, HN, hB5, hbw5⟩
                  case measure => simp [intOf]; omega
                · have ti : (item == item2) = false := by simp [hi]
                  have HN : Hid (rawG l = acc2 ++ (rowG ⟨tx, item, true⟩ (l.drop (k + 1 + (j + 1))) ++ REST)) := Lib.hid (by rw [HE2.out, HS.out, if_neg (by simp [pairG, hi])]; rfl)
                  clear hi
                  go_wp2
                  go_roundw
                  case rel => exact ⟨j + 1, m2, acc2, by omega, by go_num, by omega, unhide HOX, HN, unhide HBX, hbw3⟩
                  case measure => simp [intOf]; omega
          · have HE3 : Hid (rawG l = acc2 ++ rawG (l.drop (k + 1))) := Lib.hid (by
              have e : l.drop (k + 1 + j) = [] := drop_end (by rw [HLL.out]; have := HP.out; omega)
              rw [HE2.out, HRT.out, e]; rfl)
            go_wp2
            go_roundw
            case rel => exact ⟨k + 1, m2, acc2, by omega, by go_num, by have := HP.out; omega, ho2, HE3, hbw2⟩
            case measure => simp [intOf]; omega
    · have HE3 : Hid (rawG l = acc) := Lib.hid (by rw [HE.out, drop_end (by rw [HLL.out]; omega)]; simp [rawG])
      rw [← HE3.out] at ho
      have CS := hide (sortedE_own ho hbw.size (by omega))
      clear HE HE3
      go_wp2_with fail
      refine (unhide CS).mono ?_
      rintro e w4 ⟨m4, rfl, ho4, hm4, hb4⟩
      have hbz := hbw.trans hb4
      have HO4 := hide (rd_own ho4)
      go_wp2
      go_ret2
      exact ⟨_, _, _, rfl, unhide HO4, by omega, hbz⟩
end Go.Proofs.YtfmdeahblaikoaaDoor
