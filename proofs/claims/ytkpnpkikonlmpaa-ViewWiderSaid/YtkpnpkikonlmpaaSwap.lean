
/-
  CONTRACT of odds.Swap: the history with two ops that changed places, or the fault.
-/
import Derived.Test.YtkpnpkikonlmpaaM7
import Derived.Test.YtkpnpkikonlmpaaN0
import Derived.StillTailTactics
import Derived.BigRegion
import Derived.RegionTactic
import Derived.Deep.RegionHeld3
import Derived.IntWalk

namespace Go.Proofs.Ytkpnpkikonlmpaa
open Go.RowKit

def swapL (h : List HOp) (i : Nat) : List HOp := match h[i]?, h[i + 1]? with
  | some a, some b => (h.set i b).set (i + 1) a
  | _, _ => h

set_option maxHeartbeats 1000000 in
theorem swap_no (A : Option Addr) (n cap : Nat) (h : List HOp) (i : Int) (w : World) (hr : Rd w w.heap.size 3 A n (cellsH h)) (hm : n ≤ 6000000000000) (hno : ¬ okH h) :
    Calls Try.prog 25 #[.slice A n cap, .int .i64 i] w fun e w' => e = .returned (.tuple #[.slice none 0 0, errV (checkF h).2]) ∧ Below w.heap.size w w' := by
  have HR := hide (right_h A n cap h w hr hm)
  rw [ne_errV (show (checkF h).2 ≠ 0 from hno)] at HR ⊢
  generalize (checkF h).2 = ev at *
  clear hno
  go_enter Try.func25, Try.ntmps25
  go_wp2_with fail
  refine (unhide HR).mono ?_
  rintro e w1 ⟨rfl, hb1⟩
  go_wp2
  go_ret2
  exact ⟨rfl, hb1⟩

set_option maxHeartbeats 1000000 in
theorem swap_range (A : Option Addr) (n cap : Nat) (h : List HOp) (i : Int) (w : World) (hr : Rd w w.heap.size 3 A n (cellsH h)) (hok : okH h) (hi : i < 0 ∨ (n : Int) - 1 ≤ i) :
    Calls Try.prog 25 #[.slice A n cap, .int .i64 i] w fun e w' => e = .returned (.tuple #[.slice none 0 0, .iface 74 (.int .i64 1)]) ∧ Below w.heap.size w w' := by
  have hm : n ≤ 40 := by rw [← hr.hlen]; exact okH_len hok
  have C := right_h A n cap h w hr (by omega)
  rw [show (checkF h).2 = 0 from hok, errV_zero] at C
  have HC := hide C
  clear C hok
  rcases Int.lt_or_le i 0 with h0 | h0
  · clear hi
    go_enter Try.func25, Try.ntmps25
    go_wp2_with fail
    refine (unhide HC).mono ?_
    rintro e w1 ⟨rfl, hb1⟩
    go_wp2
    go_ret2
    exact ⟨rfl, hb1⟩
  · have h1 : ¬ i < 0 := by omega
    have h2 : (n : Int) - 1 ≤ i := by omega
    clear hi
    go_enter Try.func25, Try.ntmps25
    go_wp2_with fail
    refine (unhide HC).mono ?_
    rintro e w1 ⟨rfl, hb1⟩
    go_wp2
    go_ret2
    exact ⟨rfl, hb1⟩

set_option maxRecDepth 100000 in
set_option maxHeartbeats 2000000 in
theorem swap_clash (A : Option Addr) (n cap : Nat) (h : List HOp) (i : Nat) (w : World) (hr : Rd w w.heap.size 3 A n (cellsH h)) (hok : okH h) (hi : i + 1 < n) (a b : HOp) (ha : h[i]? = some a) (hb : h[i + 1]? = some b) (hc : a.tx = b.tx ∨ oddB a b = true) :
    Calls Try.prog 25 #[.slice A n cap, .int .i64 i] w fun e w' => e = .returned (.tuple #[.slice none 0 0, .iface 74 (.int .i64 7)]) ∧ Below w.heap.size w w' := by
  have hm : n ≤ 40 := by rw [← hr.hlen]; exact okH_len hok
  have C := right_h A n cap h w hr (by omega)
  rw [show (checkF h).2 = 0 from hok, errV_zero] at C
  have HC := hide C
  clear C hok
  have h1 : ¬ (i : Int) < 0 := by omega
  have h2 : ¬ (n : Int) - 1 ≤ i := by omega
  by_cases ht : a.tx = b.tx
  · clear hc
    go_enter Try.func25, Try.ntmps25
    go_wp2_with fail
    refine (unhide HC).mono ?_
    rintro e w1 ⟨rfl, hb1⟩
    obtain ⟨bb, off, o, he, hbb, ho, c0, c1, c2⟩ := (hr.below hb1).op (k := i) (by omega)
    cases he
    obtain rfl : a = o := by rw [ha] at ho; exact Option.some.inj ho
    obtain ⟨bb', off', o, he, hbb', ho', d0, d1, d2⟩ := (hr.below hb1).op (k := i + 1) (by omega)
    cases he
    obtain rfl : b = o := by rw [hb] at ho'; exact Option.some.inj ho'
    rw [← ht] at d0
    clear ho ho' ha hb ht
    go_wp2
    go_quiet (fail)
    go_wp2
    go_ret2
    exact ⟨rfl, below_drewN hb1 _⟩
  · have hq : oddB a b = true := by rcases hc with h | h; exact absurd h ht; exact h
    have htb : (a.tx == b.tx) = false := by simpa using ht
    clear hc
    go_enter Try.func25, Try.ntmps25
    go_wp2_with fail
    refine (unhide HC).mono ?_
    rintro e w1 ⟨rfl, hb1⟩
    obtain ⟨bb, off, o, he, hbb, ho, c0, c1, c2⟩ := (hr.below hb1).op (k := i) (by omega)
    cases he
    obtain rfl : a = o := by rw [ha] at ho; exact Option.some.inj ho
    obtain ⟨bb', off', o, he, hbb', ho', d0, d1, d2⟩ := (hr.below hb1).op (k := i + 1) (by omega)
    cases he
    obtain rfl : b = o := by rw [hb] at ho'; exact Option.some.inj ho'
    have CA := hide (at_any a b w1.drew)
    rw [hq] at CA
    have hwz : w1.drew.heap.size = w1.heap.size := rfl
    have hbd : Below w.heap.size w w1.drew := hb1.drew
    obtain ⟨a1, a2, a3⟩ := a
    obtain ⟨b1, b2, b3⟩ := b
    simp only at c0 c1 c2 d0 d1 d2 htb
    have hlt : bb < w1.heap.size := Nat.lt_of_lt_of_le hbb hb1.size
    clear ho ho' ha hb ht hq
    have hkeep : ∀ w' : World, Below w1.heap.size w1 w' → w'.cell? ⟨bb, off + i * 3, none⟩ = some (.int .i64 a1) ∧ w'.cell? ⟨bb, off + i * 3 + 1, none⟩ = some (.int .i64 a2) ∧ w'.cell? ⟨bb, off + i * 3 + 2, none⟩ = some (.int .i64 a3) ∧ w'.cell? ⟨bb, off + (i + 1) * 3, none⟩ = some (.int .i64 b1) ∧ w'.cell? ⟨bb, off + (i + 1) * 3 + 1, none⟩ = some (.int .i64 b2) ∧ w'.cell? ⟨bb, off + (i + 1) * 3 + 2, none⟩ = some (.int .i64 b3) := fun w' hw =>
      ⟨(hw.cell (p := ⟨bb, _, none⟩) hlt).trans c0, (hw.cell (p := ⟨bb, _, none⟩) hlt).trans c1, (hw.cell (p := ⟨bb, _, none⟩) hlt).trans c2, (hw.cell (p := ⟨bb, _, none⟩) hlt).trans d0, (hw.cell (p := ⟨bb, _, none⟩) hlt).trans d1, (hw.cell (p := ⟨bb, _, none⟩) hlt).trans d2⟩
    have HK := hide hkeep
    clear hkeep
    have hi0 : (0 : Int) ≤ (i : Int) := by omega
    have hi1 : (0 : Int) ≤ (i : Int) + 1 := by omega
    have hi2 : (i : Int) < (n : Int) := by omega
    have hi3 : (i : Int) + 1 < (n : Int) := by omega
    have hw1 : IntKind.i64.wrap ((i : Int) + 1) = (i : Int) + 1 := IntWalk.i64_in _ (by omega)
    have hn1 : ((i : Int) + 1).toNat = i + 1 := by omega
    go_wp2
    go_region_held3 (fun w' => w'.cell? ⟨bb, off + i * 3, none⟩ = some (.int .i64 a1) ∧ w'.cell? ⟨bb, off + i * 3 + 1, none⟩ = some (.int .i64 a2) ∧ w'.cell? ⟨bb, off + i * 3 + 2, none⟩ = some (.int .i64 a3) ∧ w'.cell? ⟨bb, off + (i + 1) * 3, none⟩ = some (.int .i64 b1) ∧ w'.cell? ⟨bb, off + (i + 1) * 3 + 1, none⟩ = some (.int .i64 b2) ∧ w'.cell? ⟨bb, off + (i + 1) * 3 + 2, none⟩ = some (.int .i64 b3))
      (first | exact HK.out _ (Below.refl _ _) | exact HK.out _ (Below.refl _ _).drew | exact hcell6 | go_keep)
      (first | (go_at_call 54; refine (unhide CA).mono ?_; rintro e w2 ⟨rfl, hb2⟩; have hcell6 := HK.out w2 ((Below.refl _ w1).drew.trans hb2)))
    go_wp2
    go_ret2
    exact ⟨rfl, hbd.trans (hb2.mono hbd.size)⟩

theorem own_frozen {w : World} {base : Nat} {e : TypeId} {size g n c : Nat} {xs : List Value} (h : w.ownsRow base e size (.slice (some ⟨g, 0, none⟩) n c) n xs) (j : Nat) : w.frozen? ⟨g, j, none⟩ = false := by
  obtain ⟨_, ⟨he, _⟩ | ⟨g', cap, cur, he, _, hg, _⟩⟩ := h
  · cases he
  · injection he with e1; injection e1 with e1; injection e1 with e1; subst e1; simp [World.frozen?, hg]
theorem own_addr {w : World} {base : Nat} {e : TypeId} {size n c : Nat} {A : Option Addr} {xs : List Value} (h : w.ownsRow base e size (.slice A n c) n xs) (hn : 0 < n) : ∃ g, A = some ⟨g, 0, none⟩ ∧ base ≤ g ∧ g < w.heap.size := by
  obtain ⟨_, ⟨he, h0⟩ | ⟨g', cap, cur, he, hb, hg, _⟩⟩ := h
  · omega
  · injection he with e1; exact ⟨g', e1, hb, (Array.getElem?_eq_some_iff.1 hg).1⟩

set_option maxRecDepth 100000 in
set_option maxHeartbeats 4000000 in
theorem swap_ok (A : Option Addr) (n cap : Nat) (h : List HOp) (i : Nat) (w : World) (hr : Rd w w.heap.size 3 A n (cellsH h)) (hok : okH h) (hi : i + 1 < n) (a b : HOp) (ha : h[i]? = some a) (hb : h[i + 1]? = some b) (ht : a.tx ≠ b.tx) (hq : oddB a b = false) :
    Calls Try.prog 25 #[.slice A n cap, .int .i64 i] w fun e w' => ∃ v, e = .returned (.tuple #[v, .nilIface]) ∧ w'.ownsRow w.heap.size 24 3 v n (cellsH (swapL h i)) ∧ Below w.heap.size w w' := by
  have hm : n ≤ 40 := by rw [← hr.hlen]; exact okH_len hok
  have C := right_h A n cap h w hr (by omega)
  rw [show (checkF h).2 = 0 from hok, errV_zero] at C
  have HC := hide C
  have HSW : Hid (swapL h i = (h.set i b).set (i + 1) a) := Lib.hid (by unfold swapL; rw [ha, hb])
  have CC := hide (fun w1 (hb : Below w.heap.size w w1) => clone_op A n cap (cellsH h) w1 ((hr.below hb).more hb.size) (oneH h) (by omega))
  have HHA := Lib.hid ha
  have HHB := Lib.hid hb
  clear C hok
  have h1 : ¬ (i : Int) < 0 := by omega
  have h2 : ¬ (n : Int) - 1 ≤ i := by omega
  have htb : (a.tx == b.tx) = false := by simpa using ht
  go_enter Try.func25, Try.ntmps25
  go_wp2_with fail
  refine (unhide HC).mono ?_
  rintro e w1 ⟨rfl, hb1⟩
  obtain ⟨bb, off, o, he, hbb, ho, c0, c1, c2⟩ := (hr.below hb1).op (k := i) (by omega)
  cases he
  obtain rfl : a = o := by rw [ha] at ho; exact Option.some.inj ho
  obtain ⟨bb', off', o, he, hbb', ho', d0, d1, d2⟩ := (hr.below hb1).op (k := i + 1) (by omega)
  cases he
  obtain rfl : b = o := by rw [hb] at ho'; exact Option.some.inj ho'
  have CA := hide (at_any a b w1.drew)
  rw [hq] at CA
  have hwz : w1.drew.heap.size = w1.heap.size := rfl
  have hbd : Below w.heap.size w w1.drew := hb1.drew
  obtain ⟨a1, a2, a3⟩ := a
  obtain ⟨b1, b2, b3⟩ := b
  simp only at c0 c1 c2 d0 d1 d2 htb
  have hlt : bb < w1.heap.size := Nat.lt_of_lt_of_le hbb hb1.size
  clear ho ho' ha hb ht hq
  have hkeep : ∀ w' : World, Below w1.heap.size w1 w' → w'.cell? ⟨bb, off + i * 3, none⟩ = some (.int .i64 a1) ∧ w'.cell? ⟨bb, off + i * 3 + 1, none⟩ = some (.int .i64 a2) ∧ w'.cell? ⟨bb, off + i * 3 + 2, none⟩ = some (.int .i64 a3) ∧ w'.cell? ⟨bb, off + (i + 1) * 3, none⟩ = some (.int .i64 b1) ∧ w'.cell? ⟨bb, off + (i + 1) * 3 + 1, none⟩ = some (.int .i64 b2) ∧ w'.cell? ⟨bb, off + (i + 1) * 3 + 2, none⟩ = some (.int .i64 b3) := fun w' hw =>
    ⟨(hw.cell (p := ⟨bb, _, none⟩) hlt).trans c0, (hw.cell (p := ⟨bb, _, none⟩) hlt).trans c1, (hw.cell (p := ⟨bb, _, none⟩) hlt).trans c2, (hw.cell (p := ⟨bb, _, none⟩) hlt).trans d0, (hw.cell (p := ⟨bb, _, none⟩) hlt).trans d1, (hw.cell (p := ⟨bb, _, none⟩) hlt).trans d2⟩
  have HK := hide hkeep
  clear hkeep
  have hi0 : (0 : Int) ≤ (i : Int) := by omega
  have hi1 : (0 : Int) ≤ (i : Int) + 1 := by omega
  have hi2 : (i : Int) < (n : Int) := by omega
  have hi3 : (i : Int) + 1 < (n : Int) := by omega
  have hw1 : IntKind.i64.wrap ((i : Int) + 1) = (i : Int) + 1 := IntWalk.i64_in _ (by omega)
  have hn1 : ((i : Int) + 1).toNat = i + 1 := by omega
  go_wp2
  go_region_held3 (fun w' => w'.cell? ⟨bb, off + i * 3, none⟩ = some (.int .i64 a1) ∧ w'.cell? ⟨bb, off + i * 3 + 1, none⟩ = some (.int .i64 a2) ∧ w'.cell? ⟨bb, off + i * 3 + 2, none⟩ = some (.int .i64 a3) ∧ w'.cell? ⟨bb, off + (i + 1) * 3, none⟩ = some (.int .i64 b1) ∧ w'.cell? ⟨bb, off + (i + 1) * 3 + 1, none⟩ = some (.int .i64 b2) ∧ w'.cell? ⟨bb, off + (i + 1) * 3 + 2, none⟩ = some (.int .i64 b3))
    (first | exact HK.out _ (Below.refl _ _) | exact HK.out _ (Below.refl _ _).drew | exact hcell6 | go_keep)
    (first | (go_at_call 54; refine (unhide CA).mono ?_; rintro e w2 ⟨rfl, hb2⟩; have hcell6 := HK.out w2 ((Below.refl _ w1).drew.trans hb2)))
  have hbw2 := hbd.trans (hb2.mono hbd.size)
  clear hcell6 HK CA c0 c1 c2 d0 d1 d2 hb2 hwz
  have hnz : 0 < n := by omega
  go_wp2_with fail
  refine (unhide CC _ hbw2).mono ?_
  rintro e w3 ⟨v3, rfl, ho3, hb3⟩
  have hbw3 := hbw2.trans (hb3.mono hbw2.size)
  replace ho3 := own_mono ho3 hbw2.size
  obtain ⟨A3, c3, rfl⟩ := own_slice ho3
  obtain ⟨g, rfl, hg1, hg2⟩ := own_addr ho3 hnz
  have hd3 := rd_own ho3
  obtain ⟨bb, off, o, he, hbb, ho, c0, c1, c2⟩ := hd3.op (k := i) (by omega)
  cases he
  obtain rfl : (⟨a1, a2, a3⟩ : HOp) = o := by have := HHA.out; rw [ho] at this; exact (Option.some.inj this).symm
  obtain ⟨bb', off', o, he, hbb', ho', d0, d1, d2⟩ := hd3.op (k := i + 1) (by omega)
  cases he
  obtain rfl : (⟨b1, b2, b3⟩ : HOp) = o := by have := HHB.out; rw [ho'] at this; exact (Option.some.inj this).symm
  simp only at c0 c1 c2 d0 d1 d2
  rw [Nat.zero_add] at c0 c1 c2 d0 d1 d2
  have e0 := ho3.frozenAt (i * 3)
  have e1 := ho3.frozenAt (i * 3 + 1)
  have e2 := ho3.frozenAt (i * 3 + 2)
  have f0 := ho3.frozenAt ((i + 1) * 3)
  have f1 := ho3.frozenAt ((i + 1) * 3 + 1)
  have f2 := ho3.frozenAt ((i + 1) * 3 + 2)
  clear ho ho' hb3 CC
  have hfin := own_set3 (own_set3 ho3 i ⟨b1, b2, b3⟩) (i + 1) ⟨a1, a2, a3⟩
  rw [← HSW.out] at hfin
  simp only at hfin
  have HFIN := hide hfin.drew
  have HBEL := hide ((((((hbw3.setCell (p := ⟨g, i * 3, none⟩) hg1 (.int .i64 b1)).setCell (p := ⟨g, i * 3 + 1, none⟩) hg1 (.int .i64 b2)).setCell (p := ⟨g, i * 3 + 2, none⟩) hg1 (.int .i64 b3)).setCell (p := ⟨g, (i + 1) * 3, none⟩) hg1 (.int .i64 a1)).setCell (p := ⟨g, (i + 1) * 3 + 1, none⟩) hg1 (.int .i64 a2)).setCell (p := ⟨g, (i + 1) * 3 + 2, none⟩) hg1 (.int .i64 a3)).drew
  clear hfin
  go_wp2
  go_region
  all_goals
    go_wp2
    go_ret2
    exact ⟨.slice (some ⟨g, 0, none⟩) n c3, rfl, unhide HFIN, unhide HBEL⟩
end Go.Proofs.Ytkpnpkikonlmpaa
