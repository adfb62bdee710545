
/-
  CONTRACTS of the reference's laneref1.writer, Reads, Last.
  CONTRACTS of the reference's laneref1.Views, ViewOrder.
  CONTRACT of the reference's laneref1.ViewOrder.
-/
import Derived.Test.YtkpnpkikonlmpaaDoorV2
import Derived.Test.YtkpnpkikonlmpaaDoorPlay
import Derived.Test.YtkpnpkikonlmpaaDoorV4
import Derived.Test.YtkpnpkikonlmpaaDoorRAlike
import Derived.Deep.RegionHeld3
import Derived.Test.YtkpnpkikonlmpaaDoorRAlong
import Derived.Test.YtkpnpkikonlmpaaDoorViewS

namespace Go.Proofs.YtkpnpkikonlmpaaDoor
open Go.RowKit

set_option maxRecDepth 100000 in
set_option maxHeartbeats 1000000 in
theorem rwriter_any (A : Option Addr) (n cap : Nat) (h : List HOp) (i : Nat) (x : HOp) (w : World) (hr : Rd w w.heap.size 3 A n (cellsH h)) (hx : h[i]? = some x) (hn : n ≤ 1000) :
    Calls Tryd.prog 34 #[.slice A n cap, .int .i64 i] w fun e w' => e = .returned (.int .i64 (wrF x.item (h.take i))) ∧ Below w.heap.size w w' := by
  have hin : i < n := by rw [← hr.hlen]; exact (List.getElem?_eq_some_iff.1 hx).1
  have HX := Lib.hid hx
  clear hx
  go_enter Tryd.func34, Tryd.ntmps34
  go_wp2
  go_loopw [5, 6] (fun s5 s6 wr => ∃ k : Nat, k ≤ i ∧ s6 = .int .i64 k ∧ s5 = .int .i64 (wrF x.item (h.take k)) ∧ Below w.heap.size w wr) (fun _ s6 _ => i - (intOf s6).toNat)
  case atStart => exact ⟨0, Nat.zero_le _, rfl, rfl, Below.refl _ _⟩
  case round =>
    obtain ⟨k, hk, rfl, rfl, hbw⟩ := hrel
    by_cases hlt : k < i
    · have hdw := hr.below hbw
      obtain ⟨b, off, o, he, hb, ho, c0, c1, c2⟩ := hdw.op (k := k) (by omega)
      cases he
      obtain ⟨_, _, x', he, _, hx', d0, d1, d2⟩ := hdw.op (k := i) hin
      cases he
      rw [HX.out] at hx'
      cases hx'
      have HS := Lib.hid (wrF_at x.item ho)
      obtain ⟨o1, o2, o3⟩ := o
      obtain ⟨x1, x2, x3⟩ := x
      simp only at c0 c1 c2 d0 d1 d2 HS
      have n0 : (0 : Int) ≤ (k : Int) := by omega
      have n1 : (k : Int) < (n : Int) := by omega
      have n2 : (0 : Int) ≤ (i : Int) := by omega
      have n3 : (i : Int) < (n : Int) := by omega
      clear ho hdw
      generalize wrF x3 (h.take k) = cur at *
      by_cases h2 : o2 = 2
      · subst h2
        by_cases h3 : o3 = x3
        · have HS2 : Hid (wrF x3 (h.take (k + 1)) = (k : Int)) := Lib.hid (by rw [HS.out, if_pos ⟨rfl, h3⟩])
          subst h3
          clear HS
          go_wp2
          go_quiet (fail)
          go_wp2
          go_roundw
          case rel => exact ⟨k + 1, by omega, by go_num, by rw [HS2.out], below_drewN hbw _⟩
          case measure => simp [intOf]; omega
        · have HS2 : Hid (wrF x3 (h.take (k + 1)) = cur) := Lib.hid (by rw [HS.out, if_neg (fun e => h3 e.2)])
          have t1 : (o3 == x3) = false := by simpa using h3
          clear HS h3
          go_wp2
          go_quiet (fail)
          go_wp2
          go_roundw
          case rel => exact ⟨k + 1, by omega, by go_num, by rw [HS2.out], below_drewN hbw _⟩
          case measure => simp [intOf]; omega
      · have HS2 : Hid (wrF x3 (h.take (k + 1)) = cur) := Lib.hid (by rw [HS.out, if_neg (fun e => h2 e.1)])
        have t1 : (o2 == 2) = false := by simpa using h2
        clear HS h2
        go_wp2
        go_quiet (fail)
        go_wp2
        go_roundw
        case rel => exact ⟨k + 1, by omega, by go_num, by rw [HS2.out], below_drewN hbw _⟩
        case measure => simp [intOf]; omega
    · obtain rfl : k = i := by omega
      go_wp2
      go_ret
      exact ⟨rfl, hbw⟩

set_option maxRecDepth 100000 in
set_option maxHeartbeats 2000000 in
theorem rreads_any (A : Option Addr) (n cap : Nat) (h : List HOp) (w : World) (hr : Rd w w.heap.size 3 A n (cellsH h)) (hn : n ≤ 1000) (hR : ∀ o ∈ h, rightB o = true) :
    Calls Tryd.prog 5 #[.slice A n cap] w fun e w' => ∃ v m, e = .returned v ∧ w'.ownsRow w.heap.size 48 2 v m (dcells (rdF h)) ∧ Below w.heap.size w w' := by
  have HR := Lib.hid hR
  have HL := Lib.hid hr.hlen
  clear hR
  go_enter Tryd.func5, Tryd.ntmps5
  go_wp2
  go_loopw [3, 4] (fun s3 s4 wr => ∃ (i : Nat), i ≤ n ∧ s4 = .int .i64 i ∧ wr.ownsRow w.heap.size 48 2 s3 (rdF (h.take i)).length (dcells (rdF (h.take i))) ∧ Below w.heap.size w wr) (fun _ s4 _ => n - (intOf s4).toNat)
  case atStart => exact ⟨0, Nat.zero_le _, rfl, World.ownsRow_nil _ _ _ _, Below.refl _ _⟩
  case round =>
    obtain ⟨i, hi, rfl, ho3, hbw⟩ := hrel
    have hq : (rdF (h.take i)).length ≤ i := by
      have := rdF_len (h.take i)
      rw [List.length_take] at this
      omega
    by_cases hlt : i < n
    · have hdw := hr.below hbw
      obtain ⟨b, off, x, he, hb, hx, c0, c1, c2⟩ := hdw.op (k := i) hlt
      cases he
      have HX := Lib.hid hx
      have HS := Lib.hid (rdF_at HR.out hx)
      obtain ⟨x1, x2, x3⟩ := x
      simp only at c0 c1 c2 HS
      have n2 : (0 : Int) ≤ (i : Int) := by omega
      have n3 : (i : Int) < (n : Int) := by omega
      generalize hRD : rdF (h.take i) = RD at *
      have HRDL := Lib.hid hRD
      obtain ⟨A3, c3, rfl⟩ := own_slice ho3
      clear hx hdw hRD
      by_cases h1 : x2 = 1
      · subst h1
        have HS2 : Hid (rdF (h.take (i + 1)) = RD ++ [((i : Int), frF x3 (h.take i))]) := Lib.hid (by rw [HS.out, if_pos rfl])
        obtain ⟨wo, rfl⟩ : ∃ wo : World, wo = wr := ⟨_, rfl⟩
        clear HS
        go_wp2
        go_loopw [5, 6] (fun s5 s6 wr => ∃ k : Nat, k ≤ i ∧ s6 = .int .i64 k ∧ s5 = .int .i64 (frF x3 (h.take k)) ∧ wr.ownsRow w.heap.size 48 2 (.slice A3 RD.length c3) RD.length (dcells RD) ∧ Below w.heap.size w wr) (fun _ s6 _ => i - (intOf s6).toNat)
        case atStart => exact ⟨0, Nat.zero_le _, rfl, rfl, ho3, hbw⟩
        case round =>
          clear ho3 hbw c0 c1 c2
          obtain ⟨k, hk, rfl, rfl, ho3, hbw⟩ := hrel
          have hdw := hr.below hbw
          have HO3 := hide (fun q => (show (wr.drewN q).ownsRow w.heap.size 48 2 (.slice A3 RD.length c3) RD.length (dcells RD) from ho3))
          by_cases hki : k < i
          · obtain ⟨_, _, o, he, hb, ho, c0, c1, c2⟩ := hdw.op (k := k) (by omega)
            cases he
            obtain ⟨_, _, x', he, _, hx', d0, d1, d2⟩ := hdw.op (k := i) hlt
            cases he
            rw [HX.out] at hx'
            cases hx'
            have HS := Lib.hid (frF_at x3 ho)
            obtain ⟨o1, o2, o3⟩ := o
            simp only at c0 c1 c2 d0 d1 d2 HS
            have n0 : (0 : Int) ≤ (k : Int) := by omega
            have n1 : (k : Int) < (n : Int) := by omega
            clear ho hdw ho3
            generalize frF x3 (h.take k) = cur at *
            by_cases h2 : o2 = 2
            · subst h2
              by_cases h3 : o3 = x3
              · have HF : Hid (frF x3 (h.take (k + 1)) = o1) := Lib.hid (by rw [HS.out, if_pos ⟨rfl, h3⟩])
                subst h3
                clear HS
                go_wp2
                go_quiet (fail)
                have c0' : (wr.drewN nq).cell? ⟨b, off + k * 3, none⟩ = some (.int .i64 o1) := c0
                go_wp2
                go_roundw
                case rel => exact ⟨k + 1, by omega, by go_num, by rw [HF.out], unhide HO3 _, below_drewN hbw _⟩
                case measure => simp [intOf]; omega
              · have HF : Hid (frF x3 (h.take (k + 1)) = cur) := Lib.hid (by rw [HS.out, if_neg (fun e => h3 e.2)])
                have t1 : (o3 == x3) = false := by simpa using h3
                clear HS h3
                go_wp2
                go_quiet (fail)
                go_wp2
                go_roundw
                case rel => exact ⟨k + 1, by omega, by go_num, by rw [HF.out], unhide HO3 _, below_drewN hbw _⟩
                case measure => simp [intOf]; omega
            · have HF : Hid (frF x3 (h.take (k + 1)) = cur) := Lib.hid (by rw [HS.out, if_neg (fun e => h2 e.1)])
              have t1 : (o2 == 2) = false := by simpa using h2
              clear HS h2
              go_wp2
              go_quiet (fail)
              go_wp2
              go_roundw
              case rel => exact ⟨k + 1, by omega, by go_num, by rw [HF.out], unhide HO3 _, below_drewN hbw _⟩
              case measure => simp [intOf]; omega
          · obtain rfl : k = i := by omega
            generalize hfr : frF x3 (h.take k) = fr at *
            have hz := hbw.size
            clear HO3 hdw hfr
            go_wp2_with (at_builtin; (refine wpList_app rfl (.tmp 48) (.tmp 52) _ rfl w.heap.size slt_src (n := RD.length) (xs := dcells RD) (m := 1) (news := dcells [((k : Int), fr)]) rfl (own_alloc ho3 _) rfl (rd_new' _ _ (dcells [((k : Int), fr)]) (by simp) rfl) (oneD _) (by omega) (by simp; omega) ?_; intro v5 w5 hown5 hg5 hb5 hat5 hne5))
            have hbw5 := (hbw.alloc hz (.cells (dcells [((k : Int), fr)]).toArray 48)).trans hb5
            rw [← dcells_append, ← HS2.out] at hown5
            have hlen : RD.length + 1 = (rdF (h.take (k + 1))).length := by rw [HS2.out]; simp
            rw [hlen] at hown5
            go_wp2
            go_roundw
            case rel => exact ⟨k + 1, by omega, by go_num, hown5, hbw5⟩
            case measure => simp [intOf]; omega
      · have HS2 : Hid (rdF (h.take (i + 1)) = RD) := Lib.hid (by rw [HS.out, if_neg h1])
        have t1 : (x2 != 1) = true := by simp [h1]
        clear HS h1
        go_wp2
        go_roundw
        case rel => exact ⟨i + 1, by omega, by go_num, by rw [HS2.out]; exact ho3, hbw⟩
        case measure => simp [intOf]; omega
    · have hT : h.take i = h := List.take_of_length_le (by rw [HL.out]; omega)
      generalize hRD : (rdF (h.take i)).length = q at *
      rw [hT] at ho3
      obtain ⟨A3, c3, rfl⟩ := own_slice ho3
      go_wp2
      go_ret
      exact ⟨_, _, rfl, ho3, hbw⟩

set_option maxRecDepth 100000 in
set_option maxHeartbeats 2000000 in
theorem rlast_any (A : Option Addr) (n cap : Nat) (h : List HOp) (w : World) (hr : Rd w w.heap.size 3 A n (cellsH h)) (hn : n ≤ 1000) (hR : ∀ o ∈ h, rightB o = true) :
    Calls Tryd.prog 7 #[.slice A n cap] w fun e w' => ∃ v, e = .returned v ∧ w'.ownsRow w.heap.size 3 1 v 6 (cellsI (lastL h)) ∧ Below w.heap.size w w' := by
  have HR := Lib.hid hR
  have HL := Lib.hid hr.hlen
  clear hR
  have hmk := make6
  have hlast6 : ∀ k, (lastL (h.take k)).length = 6 := fun k => by unfold lastL; rfl
  have HL6 := Lib.hid hlast6
  clear hlast6
  go_enter Tryd.func7, Tryd.ntmps7
  go_wp2
  clear hmk
  go_loopw [4] (fun s4 wr => ∃ (i : Nat), i ≤ n ∧ s4 = .int .i64 i ∧ Blk wr w.heap.size 3 (cellsI (lastL (h.take i))) ∧ Below w.heap.size w wr) (fun s4 _ => n - (intOf s4).toNat)
  case atStart => exact ⟨0, Nat.zero_le _, rfl, Blk.new w 3 (cellsI (List.replicate 6 0)), (Below.refl _ _).alloc (Nat.le_refl _) _⟩
  case round =>
    obtain ⟨i, hi, rfl, hB, hbw⟩ := hrel
    have hBlt := hB.lt
    by_cases hlt : i < n
    · obtain ⟨b, off, x, he, hb, hx, c0, c1, c2⟩ := (hr.below hbw).op (k := i) hlt
      cases he
      have hro := rightB_get (HR.out x (List.mem_of_getElem? hx))
      have HS := Lib.hid (lastL_step hx (HR.out x (List.mem_of_getElem? hx)))
      obtain ⟨x1, x2, x3⟩ := x
      simp only at c0 c1 c2 HS hro
      have n2 : (0 : Int) ≤ (i : Int) := by omega
      have n3 : (i : Int) < (n : Int) := by omega
      clear hx
      by_cases h2 : x2 = 2
      · subst h2
        have hit := hro.2.2.2.2.1 (by omega)
        obtain ⟨j, hj⟩ : ∃ j : Nat, x3.toNat - 1 = j := ⟨_, rfl⟩
        rw [hj] at HS
        obtain ⟨v, hv⟩ : ∃ v, (lastL (h.take i))[j]? = some v := ⟨_, List.getElem?_eq_getElem (by rw [HL6.out i]; omega)⟩
        have ev : wr.cell? ⟨w.heap.size, j, none⟩ = some (.int .i64 v) := hB.cellS (by rw [cellsI, List.getElem?_map, hv]; rfl)
        have fv : wr.frozen? ⟨w.heap.size, j, none⟩ = false := hB.frozen _
        have HS2 : Hid (lastL (h.take (i + 1)) = (lastL (h.take i)).set (j) x1) := Lib.hid (by rw [HS.out, if_pos rfl])
        have hB2 := (hB.put (j) (.int .i64 x1))
        have e2 : (cellsI (lastL (h.take i))).set (j) (.int .i64 x1) = cellsI (lastL (h.take (i + 1))) := by rw [HS2.out]; unfold cellsI; rw [List.map_set]
        rw [e2] at hB2
        have i1 : IntKind.i64.wrap (x3 - 1) = (j : Int) := by
          rw [show x3 - 1 = (j : Int) by omega]; exact IntWalk.i64_in _ (by omega)
        have i2 : (0 : Int) ≤ (j : Int) := by omega
        have i3 : (j : Int) < 6 := by omega
        have i3' : (j : Int) < ((6 : Nat) : Int) := by omega
        have hne : b ≠ w.heap.size := by omega
        have hbw2 := hbw.setCell (p := ⟨w.heap.size, j, none⟩) (Nat.le_refl _) (.int .i64 x1)
        have ev' : wr.drew.cell? ⟨w.heap.size, j, none⟩ = some (.int .i64 v) := ev
        have fv' : wr.drew.frozen? ⟨w.heap.size, j, none⟩ = false := fv
        have hne2 : (⟨w.heap.size, j, none⟩ : Addr).block ≠ (⟨b, off + i * 3, none⟩ : Addr).block := fun e => hne e.symm
        have hne3 : (⟨w.heap.size, j, none⟩ : Addr).block ≠ (⟨b, off + i * 3 + 2, none⟩ : Addr).block := fun e => hne e.symm
        have hs0 : (wr.drew.setCell ⟨w.heap.size, j, none⟩ (.int .i64 x1)).cell? ⟨b, off + i * 3, none⟩ = some (.int .i64 x1) := (World.cell?_setCell_far _ _ _ _ hne2).trans c0
        have hs2 : (wr.drew.setCell ⟨w.heap.size, j, none⟩ (.int .i64 x1)).cell? ⟨b, off + i * 3 + 2, none⟩ = some (.int .i64 x3) := (World.cell?_setCell_far _ _ _ _ hne3).trans c2
        have hB3 : Blk (wr.drew.setCell ⟨w.heap.size, j, none⟩ (.int .i64 x1)) w.heap.size 3 (cellsI (lastL (h.take (i + 1)))) := hB2
        have hbw3 : Below w.heap.size w (wr.drew.setCell ⟨w.heap.size, j, none⟩ (.int .i64 x1)) := hbw.drew.setCell (p := ⟨w.heap.size, j, none⟩) (Nat.le_refl _) (.int .i64 x1)
        clear HS hv e2 hro hit hB2 hbw2 hj
        go_wp2
        go_region_held3 (fun w' => w'.cell? ⟨b, off + i * 3, none⟩ = some (.int .i64 x1) ∧ w'.cell? ⟨b, off + i * 3 + 2, none⟩ = some (.int .i64 x3)) (first | exact ⟨c0, c2⟩ | exact ⟨hs0, hs2⟩ | go_keep) (fail)
        go_wp2
        go_roundw
        case rel => exact ⟨i + 1, by omega, by go_num, hB3, hbw3⟩
        case measure => simp [intOf]; omega
      · have HS2 : Hid (lastL (h.take (i + 1)) = lastL (h.take i)) := Lib.hid (by rw [HS.out, if_neg h2])
        have t1 : (x2 == 2) = false := by simpa using h2
        clear HS h2
        go_wp2
        go_roundw
        case rel => exact ⟨i + 1, by omega, by go_num, by rw [HS2.out]; exact hB, hbw⟩
        case measure => simp [intOf]; omega
    · have hT : h.take i = h := List.take_of_length_le (by rw [HL.out]; omega)
      rw [hT] at hB
      have HO1 : Hid (wr.ownsRow w.heap.size 3 1 (.slice (some ⟨w.heap.size, 0, none⟩) 6 6) 6 (cellsI (lastL h))) := Lib.hid (own_blk hB (Nat.le_refl _) (by decide) (by unfold lastL; rfl))
      go_wp2
      go_ret
      exact ⟨_, rfl, HO1.out, hbw⟩
end Go.Proofs.YtkpnpkikonlmpaaDoor


namespace Go.Proofs.YtkpnpkikonlmpaaDoor
open Go.RowKit

theorem wrF_cases {h : List HOp} (hR : ∀ o ∈ h, rightB o = true) (x : Int) {k : Nat} : (wrF x (h.take k) = -1 ∧ (srcF (h.take k)).last x = (0, 0)) ∨
    ∃ (i : Nat) (o : HOp), i < k ∧ h[i]? = some o ∧ wrF x (h.take k) = i ∧ (srcF (h.take k)).last x = (o.tx, (cntT (h.take i) o.tx : Int) + 1) ∧ 1 ≤ o.tx := by
  rcases wrF_spec h x k with h1 | ⟨i, o, h1, h2, h3, h4⟩
  · exact .inl h1
  · exact .inr ⟨i, o, h1, h2, h3, h4, (rightB_get (hR o (List.mem_of_getElem? h2))).1⟩
theorem allGo_step (h g : List HOp) (i r : Nat) : allGo h g i (r + 1) = (readT h g i && allGo h g (i + 1) r) := rfl
/-- A read's test, by the places of the two writes. -/
theorem readT_at {h g : List HOp} {i j : Nat} {o : HOp} (ho : h[i]? = some o) (hg : g[j]? = some o) (hc : cntT (g.take j) o.tx = cntT (h.take i) o.tx) (hw : o.what = 1) : readT h g i = decide ((srcF (h.take i)).last o.item = (srcF (g.take j)).last o.item) := by
  unfold readT
  rw [ho]
  simp only [hw, decide_true, Bool.not_true, Bool.false_or]
  rw [← hc, place_at hg]
  rfl
theorem readT_skip {h g : List HOp} {i : Nat} {o : HOp} (ho : h[i]? = some o) (hw : o.what ≠ 1) : readT h g i = true := by
  unfold readT
  rw [ho]
  simp [hw]

set_option maxRecDepth 100000 in
set_option maxHeartbeats 8000000 in
theorem rviews_any (A B : Option Addr) (n m c d : Nat) (h g : List HOp) (w : World) (hr : Rd w w.heap.size 3 A n (cellsH h)) (hg : Rd w w.heap.size 3 B m (cellsH g)) (hn : n ≤ 40) (hm : m ≤ 40) (hcap : n ≤ c) (hcap2 : m ≤ d) (hth : ∀ o ∈ h, rightB o = true) (htg : ∀ o ∈ g, rightB o = true) :
    Calls Tryd.prog 15 #[.slice A n c, .slice B m d] w fun e w' => e = .returned (.bool (viewB h g)) ∧ Below w.heap.size w w' := by
  have HLH := Lib.hid hr.hlen
  have HLG := Lib.hid hg.hlen
  have HV : Hid (viewB h g = (sameOwnB h g && (decide (lastL h = lastL g) && allGo h g 0 n))) := Lib.hid (by rw [← views_view hth htg, viewsR_go, HLH.out])
  have K := hide (fun w' (hb : Below w.heap.size w w') => And.intro ((hr.below hb).more hb.size) ((hg.below hb).more hb.size))
  have HT := Lib.hid (And.intro hth htg)
  have C1 := hide (rsameDeals_any A B n m c d h g w hr hg (by omega) (by omega))
  clear hr hg hth htg
  generalize viewB h g = R at *
  go_enter Tryd.func15, Tryd.ntmps15
  go_wp2_with fail
  refine (unhide C1).mono ?_
  rintro e w1 ⟨rfl, hb1⟩
  clear C1
  cases hs : sameOwnB h g
  · have HV2 : Hid (R = false) := Lib.hid (by rw [HV.out, hs]; rfl)
    clear HV hs
    go_wp2
    go_ret
    exact ⟨ret_bool HV2.out.symm, hb1⟩
  · have HV2 : Hid (R = (decide (lastL h = lastL g) && allGo h g 0 n)) := Lib.hid (by rw [HV.out, hs]; rfl)
    have HSO := Lib.hid (sameOwnB_iff.1 hs)
    clear HV hs
    have C2 := hide (rlast_any A n c h w1 (unhide K w1 hb1).1 (by omega) HT.out.1)
    go_wp2_with fail
    refine (unhide C2).mono ?_
    rintro e w2 ⟨v2, rfl, ho2, hb2⟩
    obtain ⟨A2, c2, rfl⟩ := own_slice ho2
    have hd2 := rd_own ho2
    have hbw2 := hb1.trans (hb2.mono hb1.size)
    have C3 := hide (rlast_any B m d g w2 (unhide K w2 hbw2).2 (by omega) HT.out.2)
    clear C2 ho2 hb2 hb1
    go_wp2_with fail
    refine (unhide C3).mono ?_
    rintro e w3 ⟨v3, rfl, ho3, hb3⟩
    obtain ⟨A3, c3, rfl⟩ := own_slice ho3
    have hd3 := rd_own ho3
    have hbw3 := hbw2.trans (hb3.mono hbw2.size)
    have hd23 := (hd2.below hb3).more hb3.size
    have K3 := hide (fun w' (hb : Below w3.heap.size w3 w') => And.intro (hbw3.trans (hb.mono hbw3.size)) (And.intro (hd23.below hb) (hd3.below hb)))
    have HL6 := Lib.hid (And.intro (show (lastL h).length = 6 from rfl) (show (lastL g).length = 6 from rfl))
    clear C3 ho3 hb3 hd2 hd3 hd23 hbw2 hbw3
    go_wp2
    go_loopw [8] (fun s8 wr => ∃ k : Nat, k ≤ 6 ∧ s8 = .int .i64 k ∧ Hid ((lastL h).take k = (lastL g).take k) ∧ Below w3.heap.size w3 wr) (fun s8 _ => 6 - (intOf s8).toNat)
    case atStart => exact ⟨0, by omega, rfl, rfl, Below.refl _ _⟩
    case round =>
      obtain ⟨k, hk, rfl, HT0, hbx⟩ := hrel
      obtain ⟨hbw, hda, hdb⟩ := unhide K3 wr hbx
      by_cases hlt : k < 6
      · obtain ⟨b1, o1, x, he, _, hx, q0⟩ := hda.int (k := k) hlt
        cases he
        obtain ⟨b2, o2, y, he, _, hy, q1⟩ := hdb.int (k := k) hlt
        cases he
        have HT1 := Lib.hid (take_same HT0.out hx hy)
        clear hx hy HT0 hda hdb
        by_cases hxy : x = y
        · have HE := Lib.hid (HT1.out.1 hxy)
          subst hxy
          go_wp2
          go_quiet (fail)
          go_wp2
          go_roundw
          case rel => exact ⟨k + 1, by omega, by go_num, HE, below_drewN hbx _⟩
          case measure => simp [intOf]; omega
        · have HE : Hid (R = false) := Lib.hid (by rw [HV2.out, decide_eq_false (HT1.out.2 hxy)]; rfl)
          have t1 : (x != y) = true := by simp [hxy]
          go_wp2
          go_quiet (fail)
          go_wp2
          go_ret
          exact ⟨ret_bool HE.out.symm, below_drewN hbw _⟩
      · have HV3 : Hid (R = allGo h g 0 n) := Lib.hid (by
          have e := HT0.out
          rw [List.take_of_length_le (by rw [HL6.out.1]; omega), List.take_of_length_le (by rw [HL6.out.2]; omega)] at e
          rw [HV2.out, decide_eq_true e]; rfl)
        clear HT0 HV2 hda hdb hbx K3 HL6
        obtain ⟨wo, rfl⟩ : ∃ wo : World, wo = wr := ⟨_, rfl⟩
        go_wp2
        go_loopw [9] (fun s9 wr => ∃ i r : Nat, i + r = n ∧ s9 = .int .i64 i ∧ Hid (R = allGo h g i r) ∧ Below w.heap.size w wr) (fun s9 _ => n - (intOf s9).toNat)
        case atStart => exact ⟨0, n, by omega, rfl, HV3, hbw⟩
        case round =>
          clear HV3 hbw
          obtain ⟨i, r, hir, rfl, HE, hbw⟩ := hrel
          obtain ⟨kh, kg⟩ := unhide K wr hbw
          by_cases hlt : i < n
          · obtain ⟨r', rfl⟩ : ∃ r', r = r' + 1 := ⟨r - 1, by omega⟩
            obtain ⟨b, off, o, he, hb, ho, c0, c1', c2'⟩ := kh.op (k := i) hlt
            cases he
            have HE2 := Lib.hid (HE.out.trans (allGo_step h g i r'))
            have HO := Lib.hid ho
            have hro := rightB_get (HT.out.1 o (List.mem_of_getElem? ho))
            have n2 : (0 : Int) ≤ (i : Int) := by omega
            have n3 : (i : Int) < (n : Int) := by omega
            by_cases hw : o.what = 1
            · obtain ⟨j, hj, hcj⟩ := name_in ho (HSO.out o.tx hro.1 hro.2.1)
              have hjm : j < m := by rw [← HLG.out]; exact (List.getElem?_eq_some_iff.1 hj).1
              have HRT := Lib.hid (readT_at ho hj hcj hw)
              have HPL := Lib.hid (place_at hj)
              rw [hcj] at HPL
              have CWH := hide (fun w1 (hb : Below w.heap.size w w1) => rwriter_any (some ⟨b, off, none⟩) n c h i o w1 (unhide K w1 hb).1 ho (by omega))
              have CWG := hide (fun w1 (hb : Below w.heap.size w w1) => rwriter_any B m d g j o w1 (unhide K w1 hb).2 hj (by omega))
              have CO := hide (fun w1 (hb : Below w.heap.size w w1) => rof_any (some ⟨b, off, none⟩) i c (h.take i) o.tx w1 ((unhide K w1 hb).1.takeH (by omega)) (by omega))
              have CP := hide (fun w1 (hb : Below w.heap.size w w1) => rplace_any B m d g o.tx (cntT (h.take i) o.tx) w1 w1.heap.size (unhide K w1 hb).2 (by omega) (by
                have h1 : cntT (h.take i) o.tx ≤ (h.take i).length := List.countP_le_length
                rw [List.length_take] at h1
                omega))
              rw [HPL.out] at CP
              have HCN : Hid ((ownL (h.take i) o.tx).length = cntT (h.take i) o.tx) := Lib.hid (cntT_own _ _)
              have hcs := wrF_cases HT.out.1 o.item (h := h) (k := i)
              have hcg := wrF_cases HT.out.2 o.item (h := g) (k := j)
              have HW := Lib.hid (And.intro hcs hcg)
              clear hcs hcg HPL hj hcj hro ho kg
              obtain ⟨o1, o2, o3⟩ := o
              simp only at hw c0 c1' c2' HRT CWH CWG CO CP HCN HW
              subst hw
              obtain ⟨ci, hci⟩ : ∃ ci, cntT (h.take i) o1 = ci := ⟨_, rfl⟩
              rw [hci] at HCN CP
              have hbr : b < w.heap.size := by
                obtain ⟨b', off', o', he', hb', _⟩ := (unhide K w (Below.refl _ _)).1.op (k := i) hlt
                cases he'
                exact hb'
              have hbd : Below w.heap.size w wr.drew := hbw.drew
              have i0 : (i : Int) ≤ (n : Int) := by omega
              have i1 : (i : Int) ≤ (c : Int) := by omega
              have hc0 : wr.drew.cell? ⟨b, off + i * 3, none⟩ = some (.int .i64 o1) := c0
              clear hci kh hb
              go_wp2
              go_region_held3 (fun w' => w'.cell? ⟨b, off + i * 3, none⟩ = some (.int .i64 o1)) (first | exact hc0 | exact hca | exact hcb | go_keep)
                (first
                  | (go_at_call 33; (with_reducible refine (unhide CO _ hbd).mono ?_); rintro e wa ⟨va, ma, rfl, hoa, hma, hba⟩; obtain ⟨Aa, ca, rfl⟩ := own_slice hoa; (obtain rfl : ma = ci := (by rw [← (rd_own hoa).hlen]; exact HCN.out)); have hbwa := hbd.trans (hba.mono hbd.size); have hca : wa.cell? ⟨b, off + i * 3, none⟩ = some (.int .i64 o1) := ((hba.cell (p := ⟨b, _, none⟩) (Nat.lt_of_lt_of_le hbr hbd.size)).trans hc0))
                  | (go_at_call 32; (with_reducible refine (unhide CP _ hbwa).mono ?_); rintro e w' ⟨rfl, rfl⟩))
              clear c0 c1' c2' hc0 hca CO CP HCN i0 i1 n2 n3 hbd hbw
              generalize wrF o3 (h.take i) = xw at CWH HW
              generalize wrF o3 (g.take j) = yw at CWG HW
              go_wp2_with fail
              refine (unhide CWH _ hbwa).mono ?_
              rintro e w5 ⟨rfl, hb5⟩
              have hbw5 := hbwa.trans (hb5.mono hbwa.size)
              clear CWH hb5 hbwa hoa hba
              go_wp2_with fail
              refine (unhide CWG _ hbw5).mono ?_
              rintro e w6 ⟨rfl, hb6⟩
              have hbw6 := hbw5.trans (hb6.mono hbw5.size)
              clear CWG hb6 hbw5
              obtain ⟨hW1, hW2⟩ := HW.out
              clear HW
              rcases hW1 with ⟨rfl, l1⟩ | ⟨x1, p, hx1, hp, rfl, l1, htp⟩
              · rcases hW2 with ⟨rfl, l2⟩ | ⟨y1, q, hy1, hq, rfl, l2, htq⟩
                · have HE3 : Hid (R = allGo h g (i + 1) r') := Lib.hid (by rw [HE2.out, HRT.out, l1, l2]; simp)
                  clear l1 l2 HE HE2 HRT
                  go_wp2
                  go_quiet (fail)
                  go_wp2
                  go_roundw
                  case rel => exact ⟨i + 1, r', by omega, by go_num, HE3, below_drewN hbw6 _⟩
                  case measure => simp [intOf]; omega
                · have HE3 : Hid (R = false) := Lib.hid (by
                    rw [HE2.out, HRT.out, l1, l2, decide_eq_false (by intro e; have e1 := (Prod.ext_iff.1 e).1; simp only at e1; omega)]; rfl)
                  have y0 : (0 : Int) ≤ (y1 : Int) := by omega
                  clear l1 l2 HE HE2 HRT hq htq hy1
                  go_wp2
                  go_ret
                  exact ⟨ret_bool HE3.out.symm, hbw6⟩
              · have x0 : (0 : Int) ≤ (x1 : Int) := by omega
                rcases hW2 with ⟨rfl, l2⟩ | ⟨y1, q, hy1, hq, rfl, l2, htq⟩
                · have HE3 : Hid (R = false) := Lib.hid (by
                    rw [HE2.out, HRT.out, l1, l2, decide_eq_false (by intro e; have e1 := (Prod.ext_iff.1 e).1; simp only at e1; omega)]; rfl)
                  clear l1 l2 HE HE2 HRT hp htp hx1
                  go_wp2
                  go_ret
                  exact ⟨ret_bool HE3.out.symm, hbw6⟩
                · have y0 : (0 : Int) ≤ (y1 : Int) := by omega
                  obtain ⟨k1, k2⟩ := unhide K w6 hbw6
                  have hxn : x1 < n := by omega
                  have hym : y1 < m := by rw [← HLG.out]; exact (List.getElem?_eq_some_iff.1 hq).1
                  obtain ⟨b1, off1, p', he, hbp, hp', a0, a1, a2⟩ := k1.op (k := x1) hxn
                  cases he
                  obtain rfl : p = p' := Option.some.inj (hp.symm.trans hp')
                  obtain ⟨b2, off2, q', he, hbq, hq', d0, d1, d2⟩ := k2.op (k := y1) hym
                  cases he
                  obtain rfl : q = q' := Option.some.inj (hq.symm.trans hq')
                  obtain ⟨p1, p2, p3⟩ := p
                  obtain ⟨q1, q2, q3⟩ := q
                  simp only at l1 l2 a0 d0
                  have x2 : (x1 : Int) < (n : Int) := by omega
                  have x3 : (x1 : Int) ≤ (c : Int) := by omega
                  have y2 : (y1 : Int) < (m : Int) := by omega
                  have y3 : (y1 : Int) ≤ (d : Int) := by omega
                  have CO1 := hide (fun w1 (hb : Below w.heap.size w w1) => rof_any (some ⟨b, off, none⟩) x1 c (h.take x1) p1 w1 ((unhide K w1 hb).1.takeH (by omega)) (by omega))
                  have CO2 := hide (fun w1 (hb : Below w.heap.size w w1) => rof_any (some ⟨b2, off2, none⟩) y1 d (g.take y1) p1 w1 ((unhide K w1 hb).2.takeH (by omega)) (by omega))
                  have hbq2 : b2 < w.heap.size := by
                    obtain ⟨b', off', o', he', hb', _⟩ := (unhide K w (Below.refl _ _)).2.op (k := y1) hym
                    cases he'
                    exact hb'
                  clear hp hq hp' hq' htp htq a1 a2 d1 d2 k1 k2 hbp hbq
                  by_cases hpq : p1 = q1
                  · subst hpq
                    have HX1 := Lib.hid (cntT_own (h.take x1) p1)
                    have HY1 := Lib.hid (cntT_own (g.take y1) p1)
                    obtain ⟨cx, hcx⟩ : ∃ cx, cntT (h.take x1) p1 = cx := ⟨_, rfl⟩
                    obtain ⟨cy, hcy⟩ : ∃ cy, cntT (g.take y1) p1 = cy := ⟨_, rfl⟩
                    rw [hcx] at HX1 l1
                    rw [hcy] at HY1 l2
                    have HE3 : Hid (R = (decide (cx = cy) && allGo h g (i + 1) r')) := Lib.hid (by
                      rw [HE2.out, HRT.out, l1, l2]
                      congr 1
                      apply decide_eq_decide.2
                      constructor
                      · intro e
                        have e1 := (Prod.ext_iff.1 e).2
                        simp only at e1
                        omega
                      · intro e; rw [e])
                    clear l1 l2 HE HE2 HRT hcx hcy
                    have hc0 : w6.drew.cell? ⟨b, off + x1 * 3, none⟩ = some (.int .i64 p1) ∧ w6.drew.cell? ⟨b2, off2 + y1 * 3, none⟩ = some (.int .i64 p1) := ⟨a0, d0⟩
                    have hbd : Below w.heap.size w w6.drew := hbw6.drew
                    clear a0 d0 hbw6
                    go_wp2
                    go_region_held3 (fun w' => w'.cell? ⟨b, off + x1 * 3, none⟩ = some (.int .i64 p1) ∧ w'.cell? ⟨b2, off2 + y1 * 3, none⟩ = some (.int .i64 p1)) (first | exact hc0 | exact hcb | exact hca | go_keep)
                      (first
                        | (go_at_call 33; (with_reducible refine (unhide CO1 _ hbd).mono ?_); rintro e wa ⟨va, ma, rfl, hoa, hma, hba⟩; obtain ⟨Aa, ca, rfl⟩ := own_slice hoa; (obtain rfl : ma = cx := (by rw [← (rd_own hoa).hlen]; exact HX1.out)); have hbwa := hbd.trans (hba.mono hbd.size); have hca : wa.cell? ⟨b, off + x1 * 3, none⟩ = some (.int .i64 p1) ∧ wa.cell? ⟨b2, off2 + y1 * 3, none⟩ = some (.int .i64 p1) := ⟨(hba.cell (p := ⟨b, _, none⟩) (Nat.lt_of_lt_of_le hbr hbd.size)).trans hc0.1, (hba.cell (p := ⟨b2, _, none⟩) (Nat.lt_of_lt_of_le hbq2 hbd.size)).trans hc0.2⟩)
                        | (go_at_call 33; (with_reducible refine (unhide CO2 _ hbwa).mono ?_); rintro e wb ⟨vb, mb, rfl, hob, hmb, hbb⟩; obtain ⟨Ab, cb, rfl⟩ := own_slice hob; (obtain rfl : mb = cy := (by rw [← (rd_own hob).hlen]; exact HY1.out)); have hbwb := hbwa.trans (hbb.mono hbwa.size); have hcb : wb.cell? ⟨b, off + x1 * 3, none⟩ = some (.int .i64 p1) ∧ wb.cell? ⟨b2, off2 + y1 * 3, none⟩ = some (.int .i64 p1) := ⟨(hbb.cell (p := ⟨b, _, none⟩) (Nat.lt_of_lt_of_le hbr hbwa.size)).trans hca.1, (hbb.cell (p := ⟨b2, _, none⟩) (Nat.lt_of_lt_of_le hbq2 hbwa.size)).trans hca.2⟩))
                    by_cases hcc : ma = mb
                    · have HE4 : Hid (R = allGo h g (i + 1) r') := Lib.hid (by rw [HE3.out, decide_eq_true hcc]; rfl)
                      subst hcc
                      go_wp2
                      go_roundw
                      case rel => exact ⟨i + 1, r', by omega, by go_num, HE4, hbwb⟩
                      case measure => simp [intOf]; omega
                    · have HE4 : Hid (R = false) := Lib.hid (by rw [HE3.out, decide_eq_false hcc]; rfl)
                      have t1 : ((ma : Int) != (mb : Int)) = true := by simp; omega
                      go_wp2
                      go_ret
                      exact ⟨ret_bool HE4.out.symm, hbwb⟩
                  · have HE3 : Hid (R = false) := Lib.hid (by
                      rw [HE2.out, HRT.out, l1, l2, decide_eq_false (by intro e; exact hpq (Prod.ext_iff.1 e).1)]; rfl)
                    have t1 : (p1 != q1) = true := by simp [hpq]
                    clear l1 l2 HE HE2 HRT
                    go_wp2
                    go_quiet (fail)
                    go_wp2
                    go_ret
                    exact ⟨ret_bool HE3.out.symm, below_drewN hbw6 _⟩
            · have HE3 : Hid (R = allGo h g (i + 1) r') := Lib.hid (by rw [HE2.out, readT_skip ho hw]; rfl)
              have t1 : (o.what != 1) = true := by simp [hw]
              clear HE HE2 hw ho hro
              obtain ⟨o1, o2, o3⟩ := o
              simp only at c0 c1' c2' t1
              go_wp2
              go_roundw
              case rel => exact ⟨i + 1, r', by omega, by go_num, HE3, hbw⟩
              case measure => simp [intOf]; omega
          · obtain rfl : r = 0 := by omega
            have HE3 : Hid (R = true) := Lib.hid HE.out
            go_wp2
            go_ret
            exact ⟨ret_bool HE3.out.symm, hbw⟩
end Go.Proofs.YtkpnpkikonlmpaaDoor


namespace Go.Proofs.YtkpnpkikonlmpaaDoor
open Go.RowKit

theorem own_cap {w : World} {base : Nat} {e : TypeId} {size : Nat} {A : Option Addr} {n c : Nat} {xs : List Value} (h : w.ownsRow base e size (.slice A n c) n xs) : n ≤ c := by
  obtain ⟨_, ⟨he, h0⟩ | ⟨g, cap, cur, he, _, _, h1, _⟩⟩ := h
  · omega
  · injection he with e1 e2 e3; omega
def VPost (R : Option (List Int)) (w : World) (e : Ending) (w' : World) : Prop :=
  Below w.heap.size w w' ∧ ((R = none ∧ ∃ A n c, e = .returned (.tuple #[.slice A n c, .bool false])) ∨ ∃ L A n c, R = some L ∧ e = .returned (.tuple #[.slice A n c, .bool true]) ∧ Rd w' w'.heap.size 1 A n (cellsI L))
theorem tryL_stepR {g : Int → Option (List Int)} {d : Int} {l t : List Int} (h : l = d :: t) : tryL g l = match g d with | some o => some o | none => tryL g t := by
  rw [h, tryL]
  cases g d <;> rfl

set_option maxRecDepth 100000 in
set_option maxHeartbeats 8000000 in
theorem rvgo_any (w0 : World) (A : Option Addr) (n c : Nat) (D : List HOp) (hd : Rd w0 w0.heap.size 3 A n (cellsH D)) (hn : n ≤ 40) (hcap : n ≤ c) (hD : ∀ x ∈ D, rightB x = true) :
    ∀ (f : Nat) (begun : List Int) (A1 : Option Addr) (n1 c1 : Nat) (w : World), n1 + f = (dealsL D).length → begun.Nodup → (∀ x ∈ begun, x ∈ dealsL D) → Below w0.heap.size w0 w → Rd w w.heap.size 1 A1 n1 (cellsI begun) →
    Calls Tryd.prog 13 #[.slice A n c, .slice A1 n1 c1] w (VPost (permGo (dealsL D) (fun o => viewB D (alongL D o)) f begun) w) := by
  have HLH := Lib.hid hd.hlen
  have HRD := Lib.hid hD
  have HK := hide (fun w1 (hb : Below w0.heap.size w0 w1) => (hd.below hb).more hb.size)
  have HM6 : Hid ((dealsL D).length ≤ 6) := Lib.hid (dealsL_len (fun o ho => ⟨(rightB_get (hD o ho)).1, (rightB_get (hD o ho)).2.1⟩))
  clear hd hD
  intro f
  induction f with
  | zero =>
    intro begun A1 n1 c1 w hnf hnd hsub hb0 hw
    have hm6 := HM6.out
    have CD := hide (rdeals_any A n c D w (unhide HK w hb0) (by omega))
    have hk1 := hw.ilen
    have HLL : Hid ((alongL D begun).length ≤ 40 ∧ ∀ x ∈ alongL D begun, rightB x = true) := Lib.hid ⟨by
      have hfull := full_mem hnd hsub (by omega)
      have hp := along_perm (D := D) hnd (along_all hfull)
      rw [hp.length_eq, HLH.out]; exact hn, fun x hx => HRD.out x (mem_along.1 hx).1⟩
    have CA := hide (fun w1 (hb : Below w.heap.size w w1) => ralong_any A A1 n n1 c c1 D begun w1 (unhide HK w1 (hb0.trans (hb.mono hb0.size))) ((hw.below hb).more hb.size) (by omega) (by omega))
    have CV := hide (fun A2 m2 c2 w1 (hb : Below w.heap.size w w1) (hd2 : Rd w1 w1.heap.size 3 A2 m2 (cellsH (alongL D begun))) (hc2 : m2 ≤ c2) => rviews_any A A2 n m2 c c2 D (alongL D begun) w1 (unhide HK w1 (hb0.trans (hb.mono hb0.size))) hd2 hn (by rw [← hd2.hlen]; exact HLL.out.1) hcap hc2 HRD.out HLL.out.2)
    have HR : Hid (permGo (dealsL D) (fun o => viewB D (alongL D o)) 0 begun = if viewB D (alongL D begun) = true then some begun else none) := Lib.hid rfl
    have HW := hide (fun w1 (hb : Below w.heap.size w w1) => (hw.below hb).more hb.size)
    have hnf2 : n1 = (dealsL D).length := by omega
    clear hnf hk1 HLL hnd hsub hb0 hw hm6 HM6 HLH
    generalize permGo (dealsL D) (fun o => viewB D (alongL D o)) 0 begun = R at *
    generalize viewB D (alongL D begun) = V at *
    generalize alongL D begun = AL at *
    generalize (dealsL D).length = md at *
    subst hnf2
    go_enter Tryd.func13, Tryd.ntmps13
    go_wp2_with fail
    refine (unhide CD).mono ?_
    rintro e w1 ⟨v1, rfl, ho1, hb1⟩
    obtain ⟨A3, c3, rfl⟩ := own_slice ho1
    have C1 := hide (unhide CA w1 hb1)
    clear CD ho1 CA
    go_wp2_with fail
    refine (unhide C1).mono ?_
    rintro e w2 ⟨v2, q2, rfl, ho2, hq2, hb2⟩
    obtain ⟨A2, c2, rfl⟩ := own_slice ho2
    have hbw2 := hb1.trans (hb2.mono hb1.size)
    have C2 := hide (unhide CV A2 q2 c2 w2 hbw2 (rd_own ho2) (own_cap ho2))
    clear C1 ho2 hb2 hb1 CV hq2
    go_wp2_with fail
    refine (unhide C2).mono ?_
    rintro e w3 ⟨rfl, hb3⟩
    have hbw3 := hbw2.trans (hb3.mono hbw2.size)
    clear C2 hb3 hbw2
    cases V
    · have HR2 : Hid (R = none) := Lib.hid (by rw [HR.out]; rfl)
      go_wp2
      go_ret2
      exact ⟨hbw3, .inl ⟨HR2.out, _, _, _, rfl⟩⟩
    · have HR2 : Hid (R = some begun) := Lib.hid (by rw [HR.out]; rfl)
      go_wp2
      go_ret2
      exact ⟨hbw3, .inr ⟨begun, _, _, _, HR2.out, rfl, unhide HW w3 hbw3⟩⟩
  | succ f ih =>
    intro begun A1 n1 c1 w hnf hnd hsub hb0 hw
    have hm6 := HM6.out
    have HR : Hid (permGo (dealsL D) (fun o => viewB D (alongL D o)) (f + 1) begun = tryL (fun d => if d ∈ begun then none else permGo (dealsL D) (fun o => viewB D (alongL D o)) f (begun ++ [d])) ((dealsL D).drop 0)) := Lib.hid (by rw [permGo, List.drop_zero])
    have HIH := hide ih
    have HND := Lib.hid (And.intro hnd hsub)
    have CD := hide (rdeals_any A n c D w (unhide HK w hb0) (by omega))
    have CI := hide (fun w1 (d : Int) (hb : Below w.heap.size w w1) => rin_any A1 n1 c1 begun d w1 _ (hw.below hb) (by omega))
    have HW := hide (fun w1 (hb : Below w.heap.size w w1) => (hw.below hb).more hb.size)
    have HNF := Lib.hid hnf
    have hn1 : n1 ≤ 6 := by omega
    have hnm : ((n1 : Int) == ((dealsL D).length : Int)) = false := by simp; omega
    have HB0 := hide (fun w1 (hb : Below w.heap.size w w1) => hb0.trans (hb.mono hb0.size))
    clear ih hnd hsub hnf hb0 hw HM6 HLH HRD
    generalize permGo (dealsL D) (fun o => viewB D (alongL D o)) (f + 1) begun = R at *
    generalize hG : (fun d => if d ∈ begun then none else permGo (dealsL D) (fun o => viewB D (alongL D o)) f (begun ++ [d])) = G at HR
    have HG := Lib.hid hG
    clear hG
    obtain ⟨md, hmd⟩ : ∃ md, (dealsL D).length = md := ⟨_, rfl⟩
    have HMD := Lib.hid hmd
    rw [hmd] at CD hnm hm6
    clear hmd
    go_enter Tryd.func13, Tryd.ntmps13
    go_wp2_with fail
    refine (unhide CD).mono ?_
    rintro e w1 ⟨v1, rfl, ho1, hb1⟩
    obtain ⟨A3, c3, rfl⟩ := own_slice ho1
    have HD3 := hide (fun w2 (hb : Below w1.heap.size w1 w2) => (rd_own ho1).below hb)
    have HB1 := hide (fun w2 (hb : Below w1.heap.size w1 w2) => hb1.trans (hb.mono hb1.size))
    have hzd := hb1.size
    clear CD ho1
    go_wp2
    clear hnm
    go_loopw [7] (fun s7 wr => ∃ k : Nat, k ≤ md ∧ s7 = .int .i64 k ∧ Hid (R = tryL G ((dealsL D).drop k)) ∧ Below w1.heap.size w1 wr) (fun s7 _ => md - (intOf s7).toNat)
    case atStart => exact ⟨0, Nat.zero_le _, rfl, HR, Below.refl _ _⟩
    case round =>
      clear HR hb1
      obtain ⟨k, hk, rfl, HE, hbx⟩ := hrel
      have hbw := unhide HB1 wr hbx
      by_cases hlt : k < md
      · obtain ⟨b, off, d, he, hb, hd, c0⟩ := (unhide HD3 wr hbx).int (k := k) hlt
        cases he
        have HE2 := Lib.hid (HE.out.trans (tryL_stepR (drop_at hd)))
        have HDM := Lib.hid (List.mem_of_getElem? hd)
        have HD := Lib.hid hd
        have CI2 := hide (unhide CI wr d hbw)
        clear HE hd hb
        by_cases h2 : d ∈ begun
        · have HE3 : Hid (R = tryL G ((dealsL D).drop (k + 1))) := Lib.hid (by rw [HE2.out, ← HG.out]; simp only [if_pos h2])
          rw [decide_eq_true h2] at CI2
          clear h2 HE2
          go_wp2_with fail
          refine (unhide CI2).mono ?_
          rintro e w' ⟨rfl, rfl⟩
          go_wp2
          go_roundw
          case rel => exact ⟨k + 1, by omega, by go_num, HE3, hbx⟩
          case measure => simp [intOf]; omega
        · have HE3 : Hid (R = match permGo (dealsL D) (fun o => viewB D (alongL D o)) f (begun ++ [d]) with | some L => some L | none => tryL G ((dealsL D).drop (k + 1))) := Lib.hid (by rw [HE2.out, ← HG.out]; simp only [if_neg h2])
          have HN2 : Hid ((begun ++ [d]).Nodup ∧ ∀ x ∈ begun ++ [d], x ∈ dealsL D) := Lib.hid ⟨List.nodup_append.2 ⟨HND.out.1, by simp, fun x hx y hy e => h2 (by rw [List.mem_singleton] at hy; rw [← hy, ← e]; exact hx)⟩, fun x hx => by
            rcases List.mem_append.1 hx with hx | hx
            · exact HND.out.2 x hx
            · rw [List.mem_singleton.1 hx]; exact HDM.out⟩
          rw [decide_eq_false h2] at CI2
          have hdw := unhide HW wr hbw
          clear h2 HE2
          go_wp2_with fail
          refine (unhide CI2).mono ?_
          rintro e w' ⟨rfl, rfl⟩
          clear CI2
          go_wp2_with (first
            | (at_builtin; (refine wpList_app rfl (.tmp 38) (.tmp 39) _ rfl wr.heap.size slt_ints (n := 0) (xs := []) (m := n1) (news := cellsI begun) rfl (World.ownsRow_nil _ _ _ _) rfl hdw (oneI _) (by omega) (Nat.le_refl _) ?_); intro v4 w4 hown4 hg4 hb4 hat4 hne4; (rw [Nat.zero_add, List.nil_append] at hown4); obtain ⟨A4, c4, rfl⟩ := own_slice hown4; have hbw4 := hbw.trans (hb4.mono hbw.size); have hbx4 := hbx.trans (hb4.mono hbx.size); obtain ⟨b', off', d', he', hb', hd', c4'⟩ := (unhide HD3 w4 hbx4).int (k := k) hlt; cases he'; (obtain rfl : d = d' := Option.some.inj (HD.out.symm.trans hd')); clear hd' hb' hg4 hat4 hne4 c0; have hz4 : wr.heap.size ≤ w4.heap.size := hb4.size)
            | (at_builtin; (refine wpList_app rfl (.tmp 41) (.tmp 46) _ rfl wr.heap.size slt_ints (n := n1) (xs := cellsI begun) (m := 1) (news := cellsI [d]) rfl (own_alloc hown4 _) rfl (rd_new' _ _ (cellsI [d]) (by simp) rfl) (oneI _) (by omega) (by simp; omega) ?_; intro v5 w5 hown5 hg5 hb5 hat5 hne5; obtain ⟨A5, c5, rfl⟩ := own_slice hown5)))
          have e1 : cellsI begun ++ cellsI [d] = cellsI (begun ++ [d]) := by simp [cellsI]
          rw [e1] at hown5
          have hbx5 := (hbx4.alloc hbx4.size (.cells (cellsI [d]).toArray 3)).trans (hb5.mono hbx.size)
          have hbw5 := unhide HB1 w5 hbx5
          have CR := hide (unhide HIH (begun ++ [d]) A5 (n1 + 1) c5 w5 (by have := HNF.out; have := HMD.out; omega) HN2.out.1 HN2.out.2 (unhide HB0 w5 hbw5) (rd_own hown5))
          clear e1 hg5 hat5 hne5 hown4 hbw4 hbx4 hb5 hown5 hb4
          go_wp2_with fail
          refine (unhide CR).mono ?_
          rintro e w6 ⟨hb6, hcs⟩
          have hbx6 := hbx5.trans (hb6.mono hbx5.size)
          rcases hcs with ⟨hnone, A6, n6, c6, rfl⟩ | ⟨L, A6, n6, c6, hsome, rfl, hd6⟩
          · have HE4 : Hid (R = tryL G ((dealsL D).drop (k + 1))) := Lib.hid (by rw [HE3.out, hnone])
            clear hnone HE3 CR
            go_wp2
            go_roundw
            case rel => exact ⟨k + 1, by omega, by go_num, HE4, hbx6⟩
            case measure => simp [intOf]; omega
          · have HE4 : Hid (R = some L) := Lib.hid (by rw [HE3.out, hsome])
            clear hsome HE3 CR
            go_wp2
            go_ret2
            exact ⟨unhide HB1 w6 hbx6, .inr ⟨L, _, _, _, HE4.out, rfl, hd6⟩⟩
      · have HE4 : Hid (R = none) := Lib.hid (by rw [HE.out, drop_end (by rw [HMD.out]; omega)]; rfl)
        clear HE
        go_wp2
        go_ret2
        exact ⟨hbw, .inl ⟨HE4.out, _, _, _, rfl⟩⟩

/-- The reference's order, from the start. -/
theorem rvorder_any (A : Option Addr) (n c : Nat) (D : List HOp) (w : World) (hd : Rd w w.heap.size 3 A n (cellsH D)) (hn : n ≤ 40) (hcap : n ≤ c) (hD : ∀ x ∈ D, rightB x = true) :
    Calls Tryd.prog 13 #[.slice A n c, .slice none 0 0] w (VPost (vOrd D) w) :=
  rvgo_any w A n c D hd hn hcap hD (dealsL D).length [] none 0 0 w (by omega) List.nodup_nil (by simp) (Below.refl _ _) Rd.nil
end Go.Proofs.YtkpnpkikonlmpaaDoor
