
/-
  CONTRACTS of slices.Equal and EqualFunc at rows of sources, view.alike, view.Same, view.Reads.
-/
import Derived.Test.YtkpnpkikonlmpaaSources
import Derived.Test.YtkpnpkikonlmpaaOwn
import Derived.Test.YtkpnpkikonlmpaaM3
import Derived.Test.YtkpnpkikonlmpaaDone2

namespace Go.Proofs.Ytkpnpkikonlmpaa
open Go.RowKit

set_option maxHeartbeats 1000000 in
theorem eqSrc_any (A B : Option Addr) (n m c d : Nat) (xs ys : List (Int × Int)) (w : World) (ha : Rd w w.heap.size 2 A n (dcells xs)) (hb : Rd w w.heap.size 2 B m (dcells ys)) (hm : n ≤ 1000000000000) :
    Calls Try.prog 79 #[.slice A n c, .slice B m d] w fun e w' => e = .returned (.bool (decide (xs = ys))) ∧ Below w.heap.size w w' := by
  have hl1 := ha.dlen
  have hl2 := hb.dlen
  by_cases hnm : n = m
  · have hnm2 : ((n : Int) != (m : Int)) = false := by simp [hnm]
    have HN := Lib.hid hnm
    have HL := Lib.hid (And.intro hl1 hl2)
    have hle : n ≤ m := by omega
    clear hnm hl1 hl2
    go_enter Try.func79, Try.ntmps79
    go_wp2
    clear hnm2
    go_loopw [13] (fun i wr => ∃ k : Nat, k ≤ n ∧ i = .int .i64 k ∧ Hid (xs.take k = ys.take k) ∧ Below w.heap.size w wr) (fun i _ => n - (intOf i).toNat)
    case atStart => exact ⟨0, Nat.zero_le _, rfl, rfl, Below.refl _ _⟩
    case round =>
      obtain ⟨k, hk, rfl, HE, hbw⟩ := hrel
      by_cases hlt : k < n
      · obtain ⟨b1, o1, x, he, _, hx, c1, c2⟩ := (ha.below hbw).pr (k := k) (by omega)
        cases he
        obtain ⟨b2, o2, y, he, _, hy, d1, d2⟩ := (hb.below hbw).pr (k := k) (by omega)
        cases he
        have HT := Lib.hid (take_same HE.out hx hy)
        clear hx hy
        have hlm : k < m := by omega
        by_cases hxy : x = y
        · have HE2 := Lib.hid (HT.out.1 hxy)
          subst hxy
          go_wp2
          go_quiet (fail)
          go_wp2
          go_roundw
          case rel => exact ⟨k + 1, by omega, by go_num, HE2, below_drewN hbw _⟩
          case measure => simp [intOf]; omega
        · have HE2 : Hid (decide (xs = ys) = false) := Lib.hid (decide_eq_false (HT.out.2 hxy))
          obtain ⟨x1, x2⟩ := x
          obtain ⟨y1, y2⟩ := y
          have hxy2 : ¬ (x1 = y1 ∧ x2 = y2) := fun h => hxy (by rw [h.1, h.2])
          clear hxy
          by_cases g1 : x1 = y1 <;> by_cases g2 : x2 = y2
          · exact absurd ⟨g1, g2⟩ hxy2
          all_goals
            try subst g1
            try subst g2
            clear hxy2
            go_wp2
            go_quiet (fail)
            go_wp2
            go_ret
            exact ⟨ret_bool HE2.out.symm, below_drewN hbw _⟩
      · have HE2 : Hid (decide (xs = ys) = true) := Lib.hid (decide_eq_true (by
          have := HE.out
          rwa [List.take_of_length_le (by rw [HL.out.1]; omega), List.take_of_length_le (by rw [HL.out.2, ← HN.out]; omega)] at this))
        go_wp2
        go_ret
        exact ⟨ret_bool HE2.out.symm, hbw⟩
  · have hnm2 : ((n : Int) != (m : Int)) = true := by simp; omega
    have HE2 : Hid (decide (xs = ys) = false) := Lib.hid (decide_eq_false (by rintro rfl; omega))
    clear hnm hl1 hl2
    go_enter Try.func79, Try.ntmps79
    go_wp2
    go_ret
    exact ⟨ret_bool HE2.out.symm, Below.refl _ _⟩

/-! ### Seven rows that are read. -/
def SrcRd (w : World) (B g : Nat) (f : Int → List (Int × Int)) : Prop :=
  g < B ∧ ∀ t : Nat, t < 7 → ∃ A c, w.cell? ⟨g, t, none⟩ = some (.slice A (f t).length c) ∧ Rd w B 2 A (f t).length (dcells (f t))
theorem SrcRd.below {w w' : World} {B g : Nat} {f : Int → List (Int × Int)} (h : SrcRd w B g f) (hb : Below B w w') : SrcRd w' B g f :=
  ⟨h.1, fun t ht => by obtain ⟨A, c, h1, h2⟩ := h.2 t ht; exact ⟨A, c, (hb.cell (p := ⟨g, t, none⟩) h.1).trans h1, h2.below hb⟩⟩
theorem SrcRd.more {w : World} {B B' g : Nat} {f : Int → List (Int × Int)} (h : SrcRd w B g f) (hB : B ≤ B') : SrcRd w B' g f :=
  ⟨by have := h.1; omega, fun t ht => by obtain ⟨A, c, h1, h2⟩ := h.2 t ht; exact ⟨A, c, h1, h2.more hB⟩⟩
theorem RowsOk.rd {w : World} {base g : Nat} {vs : List Value} {f : Int → List (Int × Int)} (h : RowsOk w base g vs f) : SrcRd w w.heap.size g f :=
  ⟨h.blk.lt, fun t ht => by
    obtain ⟨v, h1, h2⟩ := h.row t ht
    obtain ⟨A, c, rfl⟩ := own_slice h2
    exact ⟨A, c, h.blk.cellS h1, rd_own h2⟩⟩
def eqGo (f g : Int → List (Int × Int)) : Nat → Int → Bool
  | 0, _ => true
  | r + 1, t => decide (f t = g t) && eqGo f g r (t + 1)
def eqRows (f g : Int → List (Int × Int)) : Bool := [(0 : Int), 1, 2, 3, 4, 5, 6].all fun t => decide (f t = g t)
theorem eqGo_eq (f g : Int → List (Int × Int)) : eqGo f g 7 0 = eqRows f g := by
  unfold eqRows
  simp only [eqGo, List.all_cons, List.all_nil]
  rfl
theorem eqGo_step (f g : Int → List (Int × Int)) (r : Nat) (t : Int) : eqGo f g (r + 1) t = (decide (f t = g t) && eqGo f g r (t + 1)) := rfl
theorem call_eqSrc (args : Array Value) (w : World) : (callFunc 79 args).run Try.prog w = .ok (.enter 79 args) w := by kernel_rfl
set_option maxRecDepth 100000 in
set_option maxHeartbeats 2000000 in
theorem eqFunc_any (g1 g2 : Nat) (f1 f2 : Int → List (Int × Int)) (w : World) (h1 : SrcRd w w.heap.size g1 f1) (h2 : SrcRd w w.heap.size g2 f2) (hl : ∀ t : Nat, t < 7 → (f1 t).length ≤ 100000) :
    Calls Try.prog 77 #[.slice (some ⟨g1, 0, none⟩) 7 7, .slice (some ⟨g2, 0, none⟩) 7 7, .func (.func 79) #[] #[]] w fun e w' => e = .returned (.bool (eqRows f1 f2)) ∧ Below w.heap.size w w' := by
  have HF : Hid (eqRows f1 f2 = eqGo f1 f2 7 (0 : Nat)) := Lib.hid (eqGo_eq f1 f2).symm
  have HC := Lib.hid call_eqSrc
  have K := hide (fun w' (hb : Below w.heap.size w w') => And.intro (h1.below hb) (h2.below hb))
  have HLN := Lib.hid hl
  clear h1 h2 hl
  generalize eqRows f1 f2 = R at *
  go_enter Try.func77, Try.ntmps77
  go_wp2
  go_loopw [17] (fun s17 wr => ∃ t r : Nat, t + r = 7 ∧ s17 = .int .i64 t ∧ Hid (R = eqGo f1 f2 r t) ∧ Below w.heap.size w wr) (fun s17 _ => 7 - (intOf s17).toNat)
  case atStart => exact ⟨0, 7, rfl, rfl, HF, Below.refl _ _⟩
  case round =>
    clear HF
    obtain ⟨t, r, htr, rfl, HE, hbw⟩ := hrel
    by_cases ht7 : t < 7
    · obtain ⟨r', rfl⟩ : ∃ r', r = r' + 1 := ⟨r - 1, by omega⟩
      have HE2 := Lib.hid (HE.out.trans (eqGo_step f1 f2 r' t))
      obtain ⟨k1, k2⟩ := unhide K wr hbw
      obtain ⟨A1, c1, x1, y1⟩ := k1.2 t ht7
      obtain ⟨A2, c2, x2, y2⟩ := k2.2 t ht7
      have C := hide (eqSrc_any A1 A2 _ _ c1 c2 _ _ wr (y1.more hbw.size) (y2.more hbw.size) (by have := HLN.out t ht7; omega))
      have hc := HC.out
      have j0 : (0 : Int) ≤ (t : Int) := by omega
      have j1 : (t : Int) < 7 := by omega
      clear HE y1 y2 k1 k2
      by_cases he : f1 t = f2 t
      · have HE3 : Hid (R = eqGo f1 f2 r' (t + 1 : Nat)) := Lib.hid (by rw [HE2.out, decide_eq_true he, Bool.true_and]; rfl)
        rw [decide_eq_true he] at C
        clear he HE2
        go_wp2_with fail
        refine (unhide C).mono ?_
        rintro e w' ⟨rfl, hb'⟩
        have hbw' := hbw.trans (hb'.mono hbw.size)
        clear C hb' hc
        go_wp2
        go_roundw
        case rel => exact ⟨t + 1, r', by omega, by go_num, HE3, hbw'⟩
        case measure => simp [intOf]; omega
      · have HE3 : Hid (R = false) := Lib.hid (by rw [HE2.out, decide_eq_false he, Bool.false_and])
        rw [decide_eq_false he] at C
        clear he HE2
        go_wp2_with fail
        refine (unhide C).mono ?_
        rintro e w' ⟨rfl, hb'⟩
        have hbw' := hbw.trans (hb'.mono hbw.size)
        clear C hb' hc
        go_wp2
        go_ret
        exact ⟨ret_bool HE3.out.symm, hbw'⟩
    · obtain rfl : r = 0 := by omega
      have HE3 : Hid (R = true) := Lib.hid HE.out
      go_wp2
      go_ret
      exact ⟨ret_bool HE3.out.symm, hbw⟩

/-! ### view.alike. -/
set_option maxRecDepth 100000 in
set_option maxHeartbeats 4000000 in
theorem valike_any (A B : Option Addr) (n m c d : Nat) (h g : List HOp) (w : World) (hr : Rd w w.heap.size 3 A n (cellsH h)) (hg : Rd w w.heap.size 3 B m (cellsH g)) (hn : n ≤ 40) (hm : m ≤ 40) (hth : ∀ o ∈ h, rightB o = true) (htg : ∀ o ∈ g, rightB o = true) :
    Calls Try.prog 52 #[.slice A n c, .slice B m d] w fun e w' => e = .returned (.bool (viewB h g)) ∧ Below w.heap.size w w' := by
  have K := hide (fun w' (hb : Below w.heap.size w w') => And.intro ((hr.below hb).more hb.size) ((hg.below hb).more hb.size))
  have HV : Hid (viewB h g = (sameOwnB h g && (decide (lastL h = lastL g) && eqRows (srcF h).out (srcF g).out))) := Lib.hid rfl
  have HL1 := Lib.hid (look_last hth)
  have HL2 := Lib.hid (look_last htg)
  have HO : Hid (∀ t : Nat, t < 7 → ((srcF h).out t).length ≤ 100000) := Lib.hid (fun t _ => by have := out_le h t; have := hr.hlen; omega)
  have HT := Lib.hid (And.intro hth htg)
  clear hr hg hth htg
  generalize viewB h g = R at *
  have C1 := hide (look_any A n c h w (unhide K w (Below.refl _ _)).1 (by omega) HT.out.1)
  go_enter Try.func52, Try.ntmps52
  go_wp2_with fail
  refine (unhide C1).mono ?_
  rintro e w1 ⟨v1, v2, m1, rfl, ho1, ho2, hb1⟩
  obtain ⟨A1, c1, rfl⟩ := own_slice ho1
  obtain ⟨A2, c2, rfl⟩ := own_slice ho2
  rw [HL1.out] at ho2
  have hd2 := rd_own ho2
  have C2 := hide (look_any B m d g w1 (unhide K w1 hb1).2 (by omega) HT.out.2)
  clear C1 ho1 ho2
  go_wp2_with fail
  refine (unhide C2).mono ?_
  rintro e w2 ⟨v3, v4, m3, rfl, ho3, ho4, hb2⟩
  obtain ⟨A3, c3, rfl⟩ := own_slice ho3
  obtain ⟨A4, c4, rfl⟩ := own_slice ho4
  rw [HL2.out] at ho4
  have hd4 := rd_own ho4
  have hd24 := (hd2.below hb2).more hb2.size
  have hbw2 := hb1.trans (hb2.mono hb1.size)
  have C3 := hide (sameDeals_any A B n m c d h g w2 (unhide K w2 hbw2).1 (unhide K w2 hbw2).2 (by omega) (by omega))
  clear C2 ho3 ho4 hb2 hd2 hb1
  cases hs : sameOwnB h g
  · have HV2 : Hid (R = false) := Lib.hid (by rw [HV.out, hs]; rfl)
    rw [hs] at C3
    clear hs HV
    go_wp2_with fail
    refine (unhide C3).mono ?_
    rintro e w3 ⟨rfl, hb3⟩
    go_wp2
    go_ret
    exact ⟨ret_bool HV2.out.symm, hbw2.trans (hb3.mono hbw2.size)⟩
  · have HV2 : Hid (R = (decide (lastL h = lastL g) && eqRows (srcF h).out (srcF g).out)) := Lib.hid (by rw [HV.out, hs]; rfl)
    rw [hs] at C3
    clear hs HV
    go_wp2_with fail
    refine (unhide C3).mono ?_
    rintro e w3 ⟨rfl, hb3⟩
    have hbw3 := hbw2.trans (hb3.mono hbw2.size)
    have C4 := hide (equalI_any A2 A4 6 6 c2 c4 (lastL h) (lastL g) w3 ((hd24.below hb3).more hb3.size) ((hd4.below hb3).more hb3.size) (by omega))
    clear C3 hb3 hd24 hd4 hbw2
    by_cases hl : lastL h = lastL g
    · have HV3 : Hid (R = eqRows (srcF h).out (srcF g).out) := Lib.hid (by rw [HV2.out, decide_eq_true hl]; rfl)
      rw [decide_eq_true hl] at C4
      clear hl HV2
      go_wp2_with fail
      refine (unhide C4).mono ?_
      rintro e w4 ⟨rfl, hb4⟩
      have hbw4 := hbw3.trans (hb4.mono hbw3.size)
      have C5 := hide (vsources_any A n c h w4 (unhide K w4 hbw4).1 hn HT.out.1)
      clear C4 hb4 hbw3
      go_wp2_with fail
      refine (unhide C5).mono ?_
      rintro e w5 ⟨vs5, rfl, hro5, hb5⟩
      have hbw5 := hbw4.trans (hb5.mono hbw4.size)
      have hs5 := hro5.rd
      have C6 := hide (vsources_any B m d g w5 (unhide K w5 hbw5).2 hm HT.out.2)
      clear C5 hb5 hbw4 hro5
      go_wp2_with fail
      refine (unhide C6).mono ?_
      rintro e w6 ⟨vs6, rfl, hro6, hb6⟩
      have hbw6 := hbw5.trans (hb6.mono hbw5.size)
      have hs6 := hro6.rd
      have C7 := hide (eqFunc_any w4.heap.size w5.heap.size (srcF h).out (srcF g).out w6 ((hs5.below hb6).more hb6.size) hs6 HO.out)
      clear C6 hb6 hbw5 hro6 hs5 hs6
      go_wp2_with fail
      refine (unhide C7).mono ?_
      rintro e w7 ⟨rfl, hb7⟩
      go_wp2
      go_ret
      exact ⟨ret_bool HV3.out.symm, hbw6.trans (hb7.mono hbw6.size)⟩
    · have HV3 : Hid (R = false) := Lib.hid (by rw [HV2.out, decide_eq_false hl]; rfl)
      rw [decide_eq_false hl] at C4
      clear hl HV2
      go_wp2_with fail
      refine (unhide C4).mono ?_
      rintro e w4 ⟨rfl, hb4⟩
      go_wp2
      go_ret
      exact ⟨ret_bool HV3.out.symm, hbw3.trans (hb4.mono hbw3.size)⟩
end Go.Proofs.Ytkpnpkikonlmpaa
