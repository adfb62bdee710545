
/-
  CONTRACTS of the references' laneref1.Graph, Put.
-/
import Derived.Test.YtecfgepomcnenaaDoorGraph
import Derived.Test.YtecfgepomcnenaaDoorPieces
namespace Go.Proofs.YtecfgepomcnenaaDoor
open Go.RowKit

theorem rgraph_any (A : Option Addr) (n cap : Nat) (E : List (Int × Int)) (w : World) (B : Nat) (hr : Rd w B 2 A n (dcells E)) (hm : n ≤ 9000000000000) :
    Calls Tryd.prog 17 #[.slice A n cap] w fun e w' => e = .returned (.int .i64 (checkG E)) ∧ w = w' := by
  have hl := hr.dlen
  by_cases h60 : 60 < n
  · have HF : Hid (checkG E = 4) := Lib.hid (by unfold checkG; rw [hl, if_pos h60])
    clear hl
    go_enter Tryd.func17, Tryd.ntmps17
    go_wp2
    go_ret
    exact ⟨ret_int HF.out.symm, rfl⟩
  have HF : Hid (checkG E = if E.any badE then 1 else 0) := Lib.hid (by unfold checkG; rw [hl, if_neg h60])
  have HL := Lib.hid hl
  clear hl
  go_enter Tryd.func17, Tryd.ntmps17
  go_wp2
  go_loop [3] (fun s3 => ∃ k : Nat, k ≤ n ∧ s3 = .int .i64 k ∧ Hid (checkG E = if (E.drop k).any badE then 1 else 0)) (fun s3 => n - (intOf s3).toNat)
  case atStart => exact ⟨0, Nat.zero_le _, rfl, HF⟩
  case round =>
    obtain ⟨k, hk, rfl, HE⟩ := hrel
    by_cases hlt : k < n
    · obtain ⟨b, off, e, he, hb, ho, c0, c1⟩ := hr.pr (k := k) hlt
      cases he
      have HO := Lib.hid (drop_at ho)
      clear ho
      obtain ⟨x, y⟩ := e
      simp only at c0 c1
      have HB : Hid (badE (x, y) = (!txB x || !txB y)) := Lib.hid rfl
      have T1 := hide (fun w => rtx_any x w)
      have T2 := hide (fun w => rtx_any y w)
      generalize txB x = p at *
      generalize txB y = q at *
      cases p
      · have HE2 : Hid (checkG E = 1) := Lib.hid (by rw [HE.out, HO.out, List.any_cons, HB.out]; rfl)
        clear HE HO HB
        go_wp2_with fail
        refine (unhide T1 _).mono ?_
        rintro e w' ⟨rfl, rfl⟩
        go_wp2_with fail
        refine (unhide T2 _).mono ?_
        rintro e w' ⟨rfl, rfl⟩
        go_wp2
        go_ret
        exact ⟨ret_int HE2.out.symm, rfl⟩
      · cases q
        · have HE2 : Hid (checkG E = 1) := Lib.hid (by rw [HE.out, HO.out, List.any_cons, HB.out]; rfl)
          clear HE HO HB
          go_wp2_with fail
          refine (unhide T1 _).mono ?_
          rintro e w' ⟨rfl, rfl⟩
          go_wp2_with fail
          refine (unhide T2 _).mono ?_
          rintro e w' ⟨rfl, rfl⟩
          go_wp2
          go_ret
          exact ⟨ret_int HE2.out.symm, rfl⟩
        · have HE2 : Hid (checkG E = if (E.drop (k + 1)).any badE then 1 else 0) := Lib.hid (by rw [HE.out, HO.out, List.any_cons, HB.out]; rfl)
          clear HE HO HB
          go_wp2_with fail
          refine (unhide T1 _).mono ?_
          rintro e w' ⟨rfl, rfl⟩
          go_wp2_with fail
          refine (unhide T2 _).mono ?_
          rintro e w' ⟨rfl, rfl⟩
          go_wp2
          go_round
          case rel => exact ⟨k + 1, by omega, by go_num, HE2⟩
          case measure => simp [intOf]; omega
    · have HE2 : Hid (checkG E = 0) := Lib.hid (by rw [HE.out, drop_end (by rw [HL.out]; omega)]; rfl)
      clear HE
      go_wp2
      go_ret
      exact ⟨ret_int HE2.out.symm, rfl⟩

/-! ### Put. -/
theorem insS_step {x y : Int} {l t : List Int} (h : l = y :: t) : insS ltI x l = if y < x then y :: insS ltI x t else if y = x then y :: t else x :: y :: t := by
  rw [h, insS]
  by_cases h1 : y < x
  · rw [if_pos (by simp [ltI, h1]), if_pos h1]
  · rw [if_neg (by simp [ltI]; omega), if_neg h1]

set_option maxHeartbeats 2000000 in
theorem rput_any (A : Option Addr) (n c : Nat) (l : List Int) (x : Int) (w : World) (hr : Rd w w.heap.size 1 A n (cellsI l)) (hm : n ≤ 1000000) :
    Calls Tryd.prog 19 #[.slice A n c, .int .i64 x] w fun e w' => ∃ v, e = .returned v ∧ w'.ownsRow w.heap.size 3 1 v (insS ltI x l).length (cellsI (insS ltI x l)) ∧ Below w.heap.size w w' := by
  have HL := Lib.hid hr.ilen
  have HR : Hid (insS ltI x l = [] ++ insS ltI x (l.drop 0)) := Lib.hid (by rw [List.drop_zero, List.nil_append])
  generalize insS ltI x l = R at *
  go_enter Tryd.func19, Tryd.ntmps19
  go_wp2
  go_loopw [5, 6, 7] (fun s5 s6 s7 wr => ∃ (k : Nat) (dn : Bool) (acc : List Int), k ≤ n ∧ acc.length + (if dn then 0 else 1) ≤ k + 1 ∧ s7 = .int .i64 k ∧ s6 = .bool dn ∧ wr.ownsRow w.heap.size 3 1 s5 acc.length (cellsI acc) ∧ Hid (R = acc ++ (if dn then l.drop k else insS ltI x (l.drop k))) ∧ Below w.heap.size w wr) (fun _ _ s7 _ => n - (intOf s7).toNat)
  case atStart => exact ⟨0, false, [], Nat.zero_le _, by simp, rfl, rfl, World.ownsRow_nil _ _ _ _, HR, Below.refl _ _⟩
  case round =>
    clear HR
    obtain ⟨k, dn, acc, hk, hal, rfl, rfl, ho5, HE, hbw⟩ := hrel
    obtain ⟨A5, c5, rfl⟩ := own_slice ho5
    have hz := hbw.size
    by_cases hlt : k < n
    · obtain ⟨b, off, y, he, hb, hy, c0⟩ := (hr.below hbw).int (k := k) (by omega)
      cases he
      have HD := Lib.hid (drop_at hy)
      have HI := Lib.hid (insS_step (x := x) (drop_at hy))
      have hbl : b < wr.heap.size := by omega
      have keep : ∀ w5 : World, Below w.heap.size wr w5 → w5.cell? ⟨b, off + k, none⟩ = some (.int .i64 y) := fun w5 h5 => (h5.cell (p := ⟨b, off + k, none⟩) hb).trans c0
      have KEEP := hide keep
      clear hy keep
      cases dn
      · simp at hal
        rcases Int.lt_trichotomy y x with h1 | h1 | h1
        · have HE2 : Hid (R = (acc ++ [y]) ++ (if false = true then l.drop (k + 1) else insS ltI x (l.drop (k + 1)))) := Lib.hid (by rw [HE.out, HI.out]; simp [h1])
          have t1 : (y == x) = false := by simp; omega
          have t2 : ¬ x < y := by omega
          clear HE HI HD h1
          go_wp2_with (at_builtin; (refine wpList_app rfl (.tmp 34) (.tmp 39) _ rfl w.heap.size slt_ints (n := acc.length) (xs := cellsI acc) (m := 1) (news := cellsI [y]) rfl (own_alloc ho5 _) rfl (rd_new' _ _ (cellsI [y]) (by simp) rfl) (oneI _) (by omega) (by simp; omega) ?_; intro v5 w5 hown5 hg5 hb5 hat5 hne5))
          have e1 : cellsI acc ++ cellsI [y] = cellsI (acc ++ [y]) := by simp [cellsI]
          rw [e1] at hown5
          have hbw5 := (hbw.alloc hz (.cells (cellsI [y]).toArray 3)).trans hb5
          clear e1
          go_roundw
          case rel => exact ⟨k + 1, false, acc ++ [y], by omega, by simp; omega, by go_num, rfl, by rw [List.length_append]; exact hown5, HE2, hbw5⟩
          case measure => simp [intOf]; omega
        · subst h1
          have HE2 : Hid (R = (acc ++ [y]) ++ (if true = true then l.drop (k + 1) else insS ltI y (l.drop (k + 1)))) := Lib.hid (by rw [HE.out, HI.out]; simp)
          clear HE HI HD
          go_wp2_with (at_builtin; (refine wpList_app rfl (.tmp 34) (.tmp 39) _ rfl w.heap.size slt_ints (n := acc.length) (xs := cellsI acc) (m := 1) (news := cellsI [y]) rfl (own_alloc ho5 _) rfl (rd_new' _ _ (cellsI [y]) (by simp) rfl) (oneI _) (by omega) (by simp; omega) ?_; intro v5 w5 hown5 hg5 hb5 hat5 hne5))
          have e1 : cellsI acc ++ cellsI [y] = cellsI (acc ++ [y]) := by simp [cellsI]
          rw [e1] at hown5
          have hbw5 := (hbw.alloc hz (.cells (cellsI [y]).toArray 3)).trans hb5
          clear e1
          go_roundw
          case rel => exact ⟨k + 1, true, acc ++ [y], by omega, by simp; omega, by go_num, rfl, by rw [List.length_append]; exact hown5, HE2, hbw5⟩
          case measure => simp [intOf]; omega
        · have HE2 : Hid (R = (acc ++ [x] ++ [y]) ++ (if true = true then l.drop (k + 1) else insS ltI x (l.drop (k + 1)))) := Lib.hid (by
            rw [HE.out, HI.out, if_neg (by decide), if_neg (by omega), if_neg (by omega)]; simp)
          have t1 : (y == x) = false := by simp; omega
          clear HE HI HD
          go_wp2_with (first
            | (at_builtin; (refine wpList_app rfl (.tmp 30) (.tmp 32) _ rfl w.heap.size slt_ints (n := acc.length) (xs := cellsI acc) (m := 1) (news := cellsI [x]) rfl (own_alloc ho5 _) rfl (rd_new' _ _ (cellsI [x]) (by simp) rfl) (oneI _) (by omega) (by simp; omega) ?_; intro v5 w5 hown5 hg5 hb5 hat5 hne5; have hbw5 := (hbw.alloc hz (.cells (cellsI [x]).toArray 3)).trans hb5; have c6 := unhide KEEP w5 (((Below.refl _ wr).alloc hz _).trans hb5); have e1 : cellsI acc ++ cellsI [x] = cellsI (acc ++ [x]) := (by simp [cellsI]); rw [e1] at hown5; clear e1; have hz6 := hbw5.size))
            | (at_builtin; (refine wpList_app rfl (.tmp 34) (.tmp 39) _ rfl w.heap.size slt_ints (n := acc.length + 1) (xs := cellsI (acc ++ [x])) (m := 1) (news := cellsI [y]) rfl (own_alloc hown5 _) rfl (rd_new' _ _ (cellsI [y]) (by simp) rfl) (oneI _) (by omega) (by simp; omega) ?_; intro v7 w7 hown7 hg7 hb7 hat7 hne7)))
          have e1 : cellsI (acc ++ [x]) ++ cellsI [y] = cellsI (acc ++ [x] ++ [y]) := by simp [cellsI]
          rw [e1] at hown7
          have hbw7 := (hbw5.alloc hz6 (.cells (cellsI [y]).toArray 3)).trans hb7
          clear e1
          go_roundw
          case rel => exact ⟨k + 1, true, acc ++ [x] ++ [y], by omega, by simp; omega, by go_num, rfl, by rw [List.length_append, List.length_append]; exact hown7, HE2, hbw7⟩
          case measure => simp [intOf]; omega
      · simp at hal
        have HE2 : Hid (R = (acc ++ [y]) ++ (if true = true then l.drop (k + 1) else insS ltI x (l.drop (k + 1)))) := Lib.hid (by rw [HE.out, HD.out]; simp)
        clear HE HI HD
        by_cases h1 : y = x
        · subst h1
          go_wp2_with (at_builtin; (refine wpList_app rfl (.tmp 34) (.tmp 39) _ rfl w.heap.size slt_ints (n := acc.length) (xs := cellsI acc) (m := 1) (news := cellsI [y]) rfl (own_alloc ho5 _) rfl (rd_new' _ _ (cellsI [y]) (by simp) rfl) (oneI _) (by omega) (by simp; omega) ?_; intro v5 w5 hown5 hg5 hb5 hat5 hne5))
          have e1 : cellsI acc ++ cellsI [y] = cellsI (acc ++ [y]) := by simp [cellsI]
          rw [e1] at hown5
          have hbw5 := (hbw.alloc hz (.cells (cellsI [y]).toArray 3)).trans hb5
          clear e1
          go_roundw
          case rel => exact ⟨k + 1, true, acc ++ [y], by omega, by simp; omega, by go_num, rfl, by rw [List.length_append]; exact hown5, HE2, hbw5⟩
          case measure => simp [intOf]; omega
        · have t1 : (y == x) = false := by simp; exact h1
          clear h1
          go_wp2_with (at_builtin; (refine wpList_app rfl (.tmp 34) (.tmp 39) _ rfl w.heap.size slt_ints (n := acc.length) (xs := cellsI acc) (m := 1) (news := cellsI [y]) rfl (own_alloc ho5 _) rfl (rd_new' _ _ (cellsI [y]) (by simp) rfl) (oneI _) (by omega) (by simp; omega) ?_; intro v5 w5 hown5 hg5 hb5 hat5 hne5))
          have e1 : cellsI acc ++ cellsI [y] = cellsI (acc ++ [y]) := by simp [cellsI]
          rw [e1] at hown5
          have hbw5 := (hbw.alloc hz (.cells (cellsI [y]).toArray 3)).trans hb5
          clear e1
          go_roundw
          case rel => exact ⟨k + 1, true, acc ++ [y], by omega, by simp; omega, by go_num, rfl, by rw [List.length_append]; exact hown5, HE2, hbw5⟩
          case measure => simp [intOf]; omega
    · have HN : Hid (l.drop k = []) := Lib.hid (drop_end (by rw [HL.out]; omega))
      cases dn
      · simp at hal
        have HE2 : Hid (R = acc ++ [x]) := Lib.hid (by rw [HE.out, HN.out]; rfl)
        clear HE HN
        go_wp2_with (at_builtin; (refine wpList_app rfl (.tmp 43) (.tmp 45) _ rfl w.heap.size slt_ints (n := acc.length) (xs := cellsI acc) (m := 1) (news := cellsI [x]) rfl (own_alloc ho5 _) rfl (rd_new' _ _ (cellsI [x]) (by simp) rfl) (oneI _) (by omega) (by simp; omega) ?_; intro v5 w5 hown5 hg5 hb5 hat5 hne5))
        have e1 : cellsI acc ++ cellsI [x] = cellsI (acc ++ [x]) := by simp [cellsI]
        rw [e1] at hown5
        have hbw5 := (hbw.alloc hz (.cells (cellsI [x]).toArray 3)).trans hb5
        go_ret
        exact ⟨_, rfl, by rw [HE2.out, List.length_append]; exact hown5, hbw5⟩
      · have HE2 : Hid (R = acc) := Lib.hid (by rw [HE.out, HN.out]; simp)
        clear HE HN
        go_wp2
        go_ret
        exact ⟨_, rfl, by rw [HE2.out]; exact ho5, hbw⟩
end Go.Proofs.YtecfgepomcnenaaDoor
