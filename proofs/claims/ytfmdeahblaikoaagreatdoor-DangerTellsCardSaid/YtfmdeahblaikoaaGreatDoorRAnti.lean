
/-
  CONTRACTS of the reference's laneref2.Pivots, Anti.
-/
import Derived.Test.YtfmdeahblaikoaaGreatDoorBG8
import Derived.Test.YtfmdeahblaikoaaGreatDoorBG9
import Derived.Test.YtfmdeahblaikoaaGreatDoorVD2
import Derived.StillTailTactics

namespace Go.Proofs.YtfmdeahblaikoaaGreatDoor
open Go.RowKit

theorem nodup_at {l : List Int} (hn : l.Nodup) {i j : Nat} {x : Int} (hi : l[i]? = some x) (hj : l[j]? = some x) : i = j := by
  obtain ⟨h1, h2⟩ := List.getElem?_eq_some_iff.1 hi
  obtain ⟨h3, h4⟩ := List.getElem?_eq_some_iff.1 hj
  exact (List.getElem_inj hn).1 (h2.trans h4.symm)
set_option maxRecDepth 100000 in
set_option maxHeartbeats 4000000 in
theorem rpivots_any (A : Option Addr) (n c : Nat) (E : List (Int × Int)) (w : World) (hr : Rd w w.heap.size 2 A n (dcells E)) (hn : n ≤ 1000000) :
    Calls Tryz.prog 7 #[.slice A n c] w fun e w' => ∃ A' m c', e = .returned (.slice A' m c') ∧ w'.ownsRow w.heap.size 3 1 (.slice A' m c') m (cellsI (pivL E)) ∧ m ≤ 6 ∧ Below w.heap.size w w' := by
  have HRd := hide (fun w' (hb : Below w.heap.size w w') => (hr.below hb).more hb.size)
  have HPL : Hid (pivL E = pivT E 6) := Lib.hid rfl
  have HL := Lib.hid hr.dlen
  clear hr
  go_enter Tryz.func7, Tryz.ntmps7
  go_wp2
  go_loopw [3, 4, 5, 6, 7] (fun s3 s4 _ _ _ wr => ∃ (k m : Nat), k ≤ 6 ∧ m ≤ k ∧ s4 = .int .i64 ((k : Int) + 1) ∧ wr.ownsRow w.heap.size 3 1 s3 m (cellsI (pivT E k)) ∧ Below w.heap.size w wr) (fun _ s4 _ _ _ _ => (7 - intOf s4).toNat)
  case atStart => exact ⟨0, 0, Nat.zero_le _, Nat.le_refl _, rfl, World.ownsRow_nil _ _ _ _, Below.refl _ _⟩
  case round =>
    obtain ⟨k, m, hk, hmk, rfl, ho, hbw⟩ := hrel
    obtain ⟨A3, c3, rfl⟩ := own_slice ho
    obtain ⟨wo, rfl⟩ : ∃ wo : World, wo = wr := ⟨_, rfl⟩
    by_cases hlt : k < 6
    · have hq : decide ((k : Int) + 1 ≤ 6) = true := decide_eq_true (by omega)
      have HPS := Lib.hid (pivT_succ E hlt)
      have HR2 := hide (unhide HRd wo hbw)
      go_wp2
      go_loop [5, 6, 7] (fun s5 s6 s7 => ∃ (j : Nat) (p q : Bool), j ≤ n ∧ s7 = .int .i64 j ∧ s5 = .bool p ∧ s6 = .bool q ∧ Hid (p = (E.take j).any fun e => decide (e.2 = (k : Int) + 1)) ∧ Hid (q = (E.take j).any fun e => decide (e.1 = (k : Int) + 1))) (fun _ _ s7 => n - (intOf s7).toNat)
      case atStart => exact ⟨0, false, false, Nat.zero_le _, rfl, rfl, rfl, Lib.hid rfl, Lib.hid rfl⟩
      case round =>
        obtain ⟨j, p, q, hj, rfl, rfl, rfl, HP, HQ⟩ := hrel
        by_cases hlt2 : j < n
        · obtain ⟨b, off, ⟨x, y⟩, he, hb, hx, d0, d1⟩ := (unhide HR2).pr (k := j) hlt2
          cases he
          have HP2 : Hid ((p || decide (y = (k : Int) + 1)) = (E.take (j + 1)).any fun e => decide (e.2 = (k : Int) + 1)) := Lib.hid (by rw [HP.out, takeSnoc hx, List.any_append]; simp)
          have HQ2 : Hid ((q || decide (x = (k : Int) + 1)) = (E.take (j + 1)).any fun e => decide (e.1 = (k : Int) + 1)) := Lib.hid (by rw [HQ.out, takeSnoc hx, List.any_append]; simp)
          clear hx HP HQ
          cases p <;> cases q <;> by_cases h1 : y = (k : Int) + 1 <;> by_cases h2 : x = (k : Int) + 1
          all_goals
            first
              | rw [decide_eq_true h1] at HP2
              | rw [decide_eq_false h1] at HP2
            first
              | rw [decide_eq_true h2] at HQ2
              | rw [decide_eq_false h2] at HQ2
            have t1 : (y == (k : Int) + 1) = decide (y = (k : Int) + 1) := rfl
            have t2 : (x == (k : Int) + 1) = decide (x = (k : Int) + 1) := rfl
            first
              | rw [decide_eq_true h1] at t1
              | rw [decide_eq_false h1] at t1
            first
              | rw [decide_eq_true h2] at t2
              | rw [decide_eq_false h2] at t2
            clear h1 h2
            go_wp2
            go_round
            case rel => exact ⟨j + 1, _, _, by omega, by go_num, rfl, rfl, HP2, HQ2⟩
            case measure => simp [intOf]; omega
        · have HPQ : Hid (pivT E (k + 1) = pivT E k ++ (if (p && q) = true then [(k : Int) + 1] else [])) := Lib.hid (by
            rw [HPS.out, HP.out, HQ.out, List.take_of_length_le (by rw [HL.out]; omega)])
          clear HP HQ HPS
          cases p
          · have HPN : Hid (pivT E (k + 1) = pivT E k) := Lib.hid (by rw [HPQ.out]; simp)
            rw [← HPN.out] at ho
            go_wp2
            go_roundw
            case rel => exact ⟨k + 1, m, by omega, by omega, by go_num, ho, hbw⟩
            case measure => simp [intOf]; omega
          · cases q
            · have HPN : Hid (pivT E (k + 1) = pivT E k) := Lib.hid (by rw [HPQ.out]; simp)
              rw [← HPN.out] at ho
              go_wp2
              go_roundw
              case rel => exact ⟨k + 1, m, by omega, by omega, by go_num, ho, hbw⟩
              case measure => simp [intOf]; omega
            · have HPN2 : Hid (cellsI (pivT E (k + 1)) = cellsI (pivT E k) ++ cellsI [(k : Int) + 1]) := Lib.hid (by rw [HPQ.out]; simp [cellsI])
              have hz := hbw.size
              go_wp2_with (at_builtin; refine wpList_app rfl (.tmp 42) (.tmp 44) _ rfl w.heap.size slt_ints (n := m) (xs := cellsI (pivT E k)) (m := 1) (news := cellsI [(k : Int) + 1]) rfl (own_alloc ho _) rfl (rd_new' _ _ (cellsI [(k : Int) + 1]) (by simp) rfl) (oneI _) (by omega) (by simp; omega) ?_; intro v5 w5 hown5 hg5 hb5 hat5 hne5; obtain ⟨A5, c5, rfl⟩ := own_slice hown5; rw [← HPN2.out] at hown5; have hbw5 := (hbw.alloc hz (.cells (cellsI [(k : Int) + 1]).toArray 3)).trans hb5)
              go_roundw
              case rel => exact ⟨k + 1, m + 1, by omega, by omega, by go_num, hown5, hbw5⟩
              case measure => simp [intOf]; omega
    · obtain rfl : k = 6 := by omega
      rw [← HPL.out] at ho
      have HO := hide ho
      go_wp2
      go_ret
      exact ⟨_, _, _, rfl, unhide HO, by omega, hbw⟩

set_option maxRecDepth 100000 in
set_option maxHeartbeats 8000000 in
theorem anti_any (A : Option Addr) (n c : Nat) (ds : List Dl) (w : World) (hr : DRow w w.heap.size A n ds) (hn : n ≤ 41) (hw : ∀ d ∈ ds, d.wrote.length ≤ 41 ∧ d.seen.length ≤ 41) (hnd : (ds.map (·.tx)).Nodup) :
    Calls Tryz.prog 5 #[.slice A n c] w fun e w' => ∃ A' m c', e = .returned (.slice A' m c') ∧ Rd w' w'.heap.size 2 A' m (dcells (sortS ltE (rawP antiD ds))) ∧ m ≤ 100000 ∧ Below w.heap.size w w' := by
  have HR := hide (fun w' (hb : Below w.heap.size w w') => (hr.below hb).more hb.size)
  have HL := Lib.hid hr.1
  have HW := Lib.hid hw
  have HN := Lib.hid hnd
  have HF : Hid (sortS ltE (rawP antiD ds) = sortGo ltE [] (allA ds ds)) := Lib.hid (anti_raw ds).symm
  generalize sortS ltE (rawP antiD ds) = R at *
  clear hr hw hnd
  go_enter Tryz.func5, Tryz.ntmps5
  go_wp2
  go_loopw [3, 4, 5, 6, 7, 8] (fun s3 s4 _ _ _ _ wr => ∃ (i m c3 : Nat) (A3 : Option Addr) (acc : List (Int × Int)), i ≤ n ∧ s4 = .int .i64 i ∧ s3 = .slice A3 m c3 ∧ m ≤ c3 ∧ Rd wr wr.heap.size 2 A3 m (dcells acc) ∧ m ≤ i * 1681 ∧ Hid (R = sortGo ltE acc (allA ds (ds.drop i))) ∧ Below w.heap.size w wr) (fun _ s4 _ _ _ _ _ => n - (intOf s4).toNat)
  case atStart => exact ⟨0, 0, 0, none, [], Nat.zero_le _, rfl, rfl, Nat.le_refl _, Rd.nil, Nat.zero_le _, HF, Below.refl _ _⟩
  case round =>
    clear HF
    obtain ⟨i, m, c3, A3, acc, hi, rfl, rfl, hmc, hd3, hmi, HE, hbw⟩ := hrel
    by_cases hlt : i < n
    · have hai : ds[i]? = some (ds[i]'(by rw [HL.out]; exact hlt)) := List.getElem?_eq_getElem _
      generalize ds[i]'(by rw [HL.out]; exact hlt) = a at *
      have HAI := Lib.hid hai
      have HE2 : Hid (R = sortGo ltE acc (rowA a (ds.drop 0) ++ allA ds (ds.drop (i + 1)))) := Lib.hid (by rw [HE.out, allA_step (drop_at hai)]; rfl)
      have hsl : a.seen.length ≤ 41 := (HW.out a (List.mem_of_getElem? hai)).2
      obtain ⟨REST, hREST⟩ : ∃ REST, allA ds (ds.drop (i + 1)) = REST := ⟨_, rfl⟩
      rw [hREST] at HE2
      have HRT := Lib.hid hREST
      clear hai HE hREST
      go_wp2
      go_loopw [3, 5, 6, 7, 8] (fun s3 s5 _ _ _ wx => ∃ (k m c3 : Nat) (A3 : Option Addr) (acc : List (Int × Int)), k ≤ n ∧ s5 = .int .i64 k ∧ s3 = .slice A3 m c3 ∧ m ≤ c3 ∧ Rd wx wx.heap.size 2 A3 m (dcells acc) ∧ m ≤ i * 1681 + k * 41 ∧ Hid (R = sortGo ltE acc (rowA a (ds.drop k) ++ REST)) ∧ Below w.heap.size w wx) (fun _ s5 _ _ _ _ => n - (intOf s5).toNat)
      case atStart => exact ⟨0, m, c3, A3, acc, Nat.zero_le _, rfl, rfl, hmc, hd3, by omega, HE2, hbw⟩
      case round =>
        clear HE2 hd3 hbw hmc hmi
        obtain ⟨k, m, c3, A3, acc, hk, rfl, rfl, hmc, hd3, hmk, HE, hbw⟩ := hrel
        by_cases hlk : k < n
        · obtain ⟨b, off, d, As, ns, cs, Aw, nw, cw, he, hb, hd, c0, c1, c2, c3', c4, h3, h4⟩ := (unhide HR wr hbw).2 i hlt
          cases he
          rw [HAI.out] at hd
          cases hd
          obtain ⟨_, _, d, Bs, ns2, cs2, Bw, nw2, cw2, he, _, hd, e0, e1, e2, e3, e4, g3, g4⟩ := (unhide HR wr hbw).2 k hlk
          cases he
          have HS := Lib.hid (rowA_step (a := a) (drop_at hd))
          have HD := Lib.hid hd
          have hwl := (HW.out d (List.mem_of_getElem? hd)).1
          have HWL := Lib.hid g4.ilen
          have hnw : nw2 ≤ 41 := by rw [← g4.ilen]; exact hwl
          have hIK : (i = k → a.tx = d.tx) ∧ (i ≠ k → a.tx ≠ d.tx) := ⟨fun e => by
              subst e
              have := HAI.out.symm.trans hd
              cases this; rfl, fun e e2 => by
              have p1 : (ds.map (·.tx))[i]? = some a.tx := by rw [List.getElem?_map, HAI.out]; rfl
              have p2 : (ds.map (·.tx))[k]? = some a.tx := by rw [List.getElem?_map, hd, e2]; rfl
              exact e (nodup_at HN.out p1 p2)⟩
          have HIK := Lib.hid hIK
          have CQ := hide (ratOnce_any a d (.slice As ns cs) (.slice Aw nw cw) (.slice Bs ns2 cs2) (.slice Bw nw2 cw2) wr.drew)
          obtain ⟨qq, hqq⟩ : ∃ qq : Bool, atOnceD a d = qq := ⟨_, rfl⟩
          rw [hqq] at CQ
          have HQQ := Lib.hid hqq
          unfold dVal at CQ
          have n0 : (0 : Int) ≤ (i : Int) := by omega
          have n1' : (i : Int) < (n : Int) := by omega
          have n2 : (0 : Int) ≤ (k : Int) := by omega
          have n3 : (k : Int) < (n : Int) := by omega
          have hbd : Below w.heap.size w wr.drew := hbw.drew
          have hdd : Rd wr.drew wr.drew.heap.size 2 A3 m (dcells acc) := hd3
          have hzd : wr.drew.heap.size = wr.heap.size := rfl
          clear hd hqq hIK g3 g4 h3 h4 hwl
          go_wp2
          go_still_tail 8, (by kernel_rfl)
          change wpList _ _ _ _ _ wr.drew
          go_wp2_with fail
          refine (unhide CQ).mono ?_
          rintro e wy ⟨rfl, hby⟩
          have hbwy := hbd.trans (hby.mono hbd.size)
          have hd3y := (hdd.below hby).more hby.size
          clear hby hbw hd3 hdd hbd CQ c0 c1 c2 c3' c4 e0 e1 e2 e3 e4
          by_cases hik : i = k
          · have HE3 : Hid (R = sortGo ltE acc (rowA a (ds.drop (k + 1)) ++ REST)) := Lib.hid (by
              rw [HE.out, HS.out, if_neg (by unfold antiQ; rw [decide_eq_true (HIK.out.1 hik)]; simp)]; rfl)
            clear HE HS
            subst hik
            go_wp2
            go_roundw
            case rel => exact ⟨i + 1, m, c3, A3, acc, by omega, by go_num, rfl, hmc, hd3y, by omega, HE3, hbwy⟩
            case measure => simp [intOf]; omega
          · have hik2 : ((i : Int) == (k : Int)) = false := by simp; omega
            cases qq
            · have HE3 : Hid (R = sortGo ltE acc (rowA a (ds.drop (k + 1)) ++ REST)) := Lib.hid (by
                rw [HE.out, HS.out, if_neg (by unfold antiQ; rw [HQQ.out]; simp)]; rfl)
              clear HE HS hik
              go_wp2
              go_roundw
              case rel => exact ⟨k + 1, m, c3, A3, acc, by omega, by go_num, rfl, hmc, hd3y, by omega, HE3, hbwy⟩
              case measure => simp [intOf]; omega
            · have HE3 : Hid (R = sortGo ltE acc (inA a d (d.wrote.drop 0) ++ (rowA a (ds.drop (k + 1)) ++ REST))) := Lib.hid (by
                rw [HE.out, HS.out, if_pos (by unfold antiQ; rw [HQQ.out, decide_eq_false (HIK.out.2 hik)]; rfl), List.append_assoc]; rfl)
              obtain ⟨REST2, hREST2⟩ : ∃ REST2, rowA a (ds.drop (k + 1)) ++ REST = REST2 := ⟨_, rfl⟩
              rw [hREST2] at HE3
              have HR2 := Lib.hid hREST2
              clear HE HS hik hREST2
              go_wp2
              go_loopw [3, 7, 8] (fun s3 s7 _ wx => ∃ (j m c3 : Nat) (A3 : Option Addr) (acc : List (Int × Int)), j ≤ nw2 ∧ s7 = .int .i64 j ∧ s3 = .slice A3 m c3 ∧ m ≤ c3 ∧ Rd wx wx.heap.size 2 A3 m (dcells acc) ∧ m ≤ i * 1681 + k * 41 + j ∧ Hid (R = sortGo ltE acc (inA a d (d.wrote.drop j) ++ REST2)) ∧ Below w.heap.size w wx) (fun _ s7 _ _ => nw2 - (intOf s7).toNat)
              case atStart => exact ⟨0, m, c3, A3, acc, Nat.zero_le _, rfl, rfl, hmc, hd3y, by omega, HE3, hbwy⟩
              case round =>
                clear HE3 hd3y hbwy hmc hmk
                obtain ⟨j, m, c3, A3, acc, hj, rfl, rfl, hmc, hd3, hmj, HE, hbw⟩ := hrel
                obtain ⟨b, off, d', As, ns, cs, Aw, nw, cw, he, hb, hd, c0, c1, c2, c3', c4, h3, h4⟩ := (unhide HR wr hbw).2 i hlt
                cases he
                rw [HAI.out] at hd
                cases hd
                obtain ⟨_, _, d', Bs, ns2, cs2, Bw, nw3, cw2, he, _, hd, e0, e1, e2, e3, e4, g3, g4⟩ := (unhide HR wr hbw).2 k hlk
                cases he
                rw [HD.out] at hd
                cases hd
                obtain rfl : nw3 = nw2 := g4.ilen.symm.trans HWL.out
                by_cases hlj : j < nw3
                · obtain ⟨b8, off8, x, he8, hb8, hx8, y0⟩ := g4.int (k := j) hlj
                  cases he8
                  have HS := Lib.hid (inA_step (a := a) (b := d) (drop_at hx8))
                  have CR := hide (rread_any a As Aw ns cs nw cw x wr.drew h3 (by rw [← h3.hlen]; omega))
                  obtain ⟨qq, hqq⟩ : ∃ qq : Bool, readD a x = qq := ⟨_, rfl⟩
                  rw [hqq] at CR HS
                  unfold dVal at CR
                  have n4 : (0 : Int) ≤ (j : Int) := by omega
                  have n5 : (j : Int) < (nw3 : Int) := by omega
                  have hbd : Below w.heap.size w wr.drew := hbw.drew
                  have hdd : Rd wr.drew wr.drew.heap.size 2 A3 m (dcells acc) := hd3
                  have hzd : wr.drew.heap.size = wr.heap.size := rfl
                  clear hx8 hqq g3 g4 h3 h4
                  go_wp2
                  go_still_tail 12, (by kernel_rfl)
                  change wpList _ _ _ _ _ wr.drew
                  go_wp2_with fail
                  refine (unhide CR).mono ?_
                  rintro e wy ⟨rfl, hby⟩
                  have hbwy := hbd.trans (hby.mono hbd.size)
                  have hd3y := (hdd.below hby).more hby.size
                  clear hby hbw hd3 hdd hbd CR c0 c1 c2 c3' c4 e0 e1 e2 e3 e4 y0
                  cases qq
                  · have HE4 : Hid (R = sortGo ltE acc (inA a d (d.wrote.drop (j + 1)) ++ REST2)) := Lib.hid (by rw [HE.out, HS.out]; rfl)
                    clear HE HS
                    go_wp2
                    go_roundw
                    case rel => exact ⟨j + 1, m, c3, A3, acc, by omega, by go_num, rfl, hmc, hd3y, by omega, HE4, hbwy⟩
                    case measure => simp [intOf]; omega
                  · have HE4 : Hid (R = sortGo ltE (insS ltE (a.tx, d.tx) acc) (inA a d (d.wrote.drop (j + 1)) ++ REST2)) := Lib.hid (by rw [HE.out, HS.out]; rfl)
                    have CAdd := hide (radd_any A3 m c3 acc a.tx d.tx wy.drew hd3y (by omega) hmc)
                    obtain ⟨b, off, d', As, ns, cs, Aw, nw, cw, he, hb, hd, c0, c1, c2, c3', c4, h3, h4⟩ := (unhide HR wy hbwy).2 i hlt
                    cases he
                    rw [HAI.out] at hd
                    cases hd
                    obtain ⟨_, _, d', Bs, ns2, cs2, Bw, nw5, cw2, he, _, hd, e0, e1, e2, e3, e4, g3, g4⟩ := (unhide HR wy hbwy).2 k hlk
                    cases he
                    rw [HD.out] at hd
                    cases hd
                    have hbd : Below w.heap.size w wy.drew := hbwy.drew
                    have hwz : wy.drew.heap.size = wy.heap.size := rfl
                    clear HE HS h3 h4 g3 g4 hd3y hbwy c1 c2 c3' c4 e1 e2 e3 e4
                    go_wp2
                    go_still_tail 12, (by kernel_rfl)
                    change wpList _ _ _ _ _ wy.drew
                    go_wp2_with fail
                    refine (unhide CAdd).mono ?_
                    rintro e wz ⟨A', n', c', rfl, hnc, hdz, hnn, hbz⟩
                    have hbwz := hbd.trans (hbz.mono hbd.size)
                    go_wp2
                    go_roundw
                    case rel => exact ⟨j + 1, n', c', A', _, by omega, by go_num, rfl, hnc, hdz, by omega, HE4, hbwz⟩
                    case measure => simp [intOf]; omega
                · have HE4 : Hid (R = sortGo ltE acc REST2) := Lib.hid (by
                    have e : d.wrote.drop j = [] := drop_end (by rw [HWL.out]; omega)
                    rw [HE.out, e]; rfl)
                  clear h3 h4 g3 g4
                  go_wp2
                  go_roundw
                  case rel => exact ⟨k + 1, m, c3, A3, acc, by omega, by go_num, rfl, hmc, hd3, by omega, by rw [← HR2.out] at HE4; exact HE4, hbw⟩
                  case measure => simp [intOf]; omega
        · have HE3 : Hid (R = sortGo ltE acc (allA ds (ds.drop (i + 1)))) := Lib.hid (by
            have e : ds.drop k = [] := drop_end (by rw [HL.out]; omega)
            rw [HRT.out, HE.out, e]; rfl)
          clear HE
          go_wp2
          go_roundw
          case rel => exact ⟨i + 1, m, c3, A3, acc, by omega, by go_num, rfl, hmc, hd3, by omega, HE3, hbw⟩
          case measure => simp [intOf]; omega
    · have HT : Hid (R = acc) := Lib.hid (by rw [HE.out, drop_end (by rw [HL.out]; omega)]; rfl)
      have HO := hide hd3
      go_wp2
      go_ret
      exact ⟨_, _, _, rfl, by rw [HT.out]; exact unhide HO, by omega, hbw⟩
end Go.Proofs.YtfmdeahblaikoaaGreatDoor
