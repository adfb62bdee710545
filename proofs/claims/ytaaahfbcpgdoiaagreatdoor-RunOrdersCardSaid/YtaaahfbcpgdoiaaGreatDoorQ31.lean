
/-
  CONTRACTS of slices.Equal and EqualFunc at rows of sources, view.alike, view.Same, view.Reads.
  CONTRACTS of view.Same, view.Order$1, view.first, view.Order.
-/
import Derived.Test.YtaaahfbcpgdoiaaGreatDoorQ29
import Derived.Test.YtaaahfbcpgdoiaaGreatDoorQ11
import Derived.Test.YtaaahfbcpgdoiaaGreatDoorQ19
import Derived.Test.YtaaahfbcpgdoiaaGreatDoorQ9
import Derived.Test.YtaaahfbcpgdoiaaGreatDoorViewS

namespace Go.Proofs.YtaaahfbcpgdoiaaGreatDoor
open Go.RowKit

set_option maxHeartbeats 1000000 in
theorem eqSrc_any (A B : Option Addr) (n m c d : Nat) (xs ys : List (Int × Int)) (w : World) (ha : Rd w w.heap.size 2 A n (dcells xs)) (hb : Rd w w.heap.size 2 B m (dcells ys)) (hm : n ≤ 1000000000000) :
    Calls Tryz.prog 102 #[.slice A n c, .slice B m d] w fun e w' => e = .returned (.bool (decide (xs = ys))) ∧ Below w.heap.size w w' := by
  have hl1 := ha.dlen
  have hl2 := hb.dlen
  by_cases hnm : n = m
  · have hnm2 : ((n : Int) != (m : Int)) = false := by simp [hnm]
    have HN := Lib.hid hnm
    have HL := Lib.hid (And.intro hl1 hl2)
    have hle : n ≤ m := by omega
    clear hnm hl1 hl2
    go_enter Tryz.func102, Tryz.ntmps102
    go_wp2
    clear hnm2
    go_loopw [13] (fun i wr => ∃ k : Nat, k ≤ n ∧ i = .int .i64 k ∧ Hid (xs.take k = ys.take k) ∧ Below w.heap.size w wr) (fun i _ => n - (intOf i).toNat)
    case atStart => exact ⟨0, Nat.zero_le _, rfl, rfl, Below.refl _ _⟩
    case round =>
      obtain ⟨k, hk, rfl, HE, hbw⟩ := hrel
      by_cases hlt : k < n
      · obtain ⟨b1, o1, x, he, _, hx, c1, c2⟩ := (ha.below hbw).pr (k := k) (by omega)
        cases he
        obtain ⟨b2, o2, y, he, _, hy, d1, d2⟩ := (hb.below hbw).pr (k := k) (by omega)
        cases he
        have HT := Lib.hid (take_same HE.out hx hy)
        clear hx hy
        have hlm : k < m := by omega
        by_cases hxy : x = y
        · have HE2 := Lib.hid (HT.out.1 hxy)
          subst hxy
          go_wp2
          go_quiet (fail)
          go_wp2
          go_roundw
          case rel => exact ⟨k + 1, by omega, by go_num, HE2, below_drewN hbw _⟩
          case measure => simp [intOf]; omega
        · have HE2 : Hid (decide (xs = ys) = false) := Lib.hid (decide_eq_false (HT.out.2 hxy))
          obtain ⟨x1, x2⟩ := x
          obtain ⟨y1, y2⟩ := y
          have hxy2 : ¬ (x1 = y1 ∧ x2 = y2) := fun h => hxy (by rw [h.1, h.2])
          clear hxy
          by_cases g1 : x1 = y1 <;> by_cases g2 : x2 = y2
          · exact absurd ⟨g1, g2⟩ hxy2
          all_goals
            try subst g1
            try subst g2
            clear hxy2
            go_wp2
            go_quiet (fail)
            go_wp2
            go_ret
            exact ⟨ret_bool HE2.out.symm, below_drewN hbw _⟩
      · have HE2 : Hid (decide (xs = ys) = true) := Lib.hid (decide_eq_true (by
          have := HE.out
          rwa [List.take_of_length_le (by rw [HL.out.1]; omega), List.take_of_length_le (by rw [HL.out.2, ← HN.out]; omega)] at this))
        go_wp2
        go_ret
        exact ⟨ret_bool HE2.out.symm, hbw⟩
  · have hnm2 : ((n : Int) != (m : Int)) = true := by simp; omega
    have HE2 : Hid (decide (xs = ys) = false) := Lib.hid (decide_eq_false (by rintro rfl; omega))
    clear hnm hl1 hl2
    go_enter Tryz.func102, Tryz.ntmps102
    go_wp2
    go_ret
    exact ⟨ret_bool HE2.out.symm, Below.refl _ _⟩

/-! ### Seven rows that are read. -/
def SrcRd (w : World) (B g : Nat) (f : Int → List (Int × Int)) : Prop :=
  g < B ∧ ∀ t : Nat, t < 7 → ∃ A c, w.cell? ⟨g, t, none⟩ = some (.slice A (f t).length c) ∧ Rd w B 2 A (f t).length (dcells (f t))
theorem SrcRd.below {w w' : World} {B g : Nat} {f : Int → List (Int × Int)} (h : SrcRd w B g f) (hb : Below B w w') : SrcRd w' B g f :=
  ⟨h.1, fun t ht => by obtain ⟨A, c, h1, h2⟩ := h.2 t ht; exact ⟨A, c, (hb.cell (p := ⟨g, t, none⟩) h.1).trans h1, h2.below hb⟩⟩
theorem SrcRd.more {w : World} {B B' g : Nat} {f : Int → List (Int × Int)} (h : SrcRd w B g f) (hB : B ≤ B') : SrcRd w B' g f :=
  ⟨by have := h.1; omega, fun t ht => by obtain ⟨A, c, h1, h2⟩ := h.2 t ht; exact ⟨A, c, h1, h2.more hB⟩⟩
theorem RowsOk.rd {w : World} {base g : Nat} {vs : List Value} {f : Int → List (Int × Int)} (h : RowsOk w base g vs f) : SrcRd w w.heap.size g f :=
  ⟨h.blk.lt, fun t ht => by
    obtain ⟨v, h1, h2⟩ := h.row t ht
    obtain ⟨A, c, rfl⟩ := own_slice h2
    exact ⟨A, c, h.blk.cellS h1, rd_own h2⟩⟩
def eqGo (f g : Int → List (Int × Int)) : Nat → Int → Bool
  | 0, _ => true
  | r + 1, t => decide (f t = g t) && eqGo f g r (t + 1)
def eqRows (f g : Int → List (Int × Int)) : Bool := [(0 : Int), 1, 2, 3, 4, 5, 6].all fun t => decide (f t = g t)
theorem eqGo_eq (f g : Int → List (Int × Int)) : eqGo f g 7 0 = eqRows f g := by
  unfold eqRows
  simp only [eqGo, List.all_cons, List.all_nil]
  rfl
theorem eqGo_step (f g : Int → List (Int × Int)) (r : Nat) (t : Int) : eqGo f g (r + 1) t = (decide (f t = g t) && eqGo f g r (t + 1)) := rfl
theorem call_eqSrc (args : Array Value) (w : World) : (callFunc 102 args).run Tryz.prog w = .ok (.enter 102 args) w := by kernel_rfl
set_option maxRecDepth 100000 in
set_option maxHeartbeats 2000000 in
theorem eqFunc_any (g1 g2 : Nat) (f1 f2 : Int → List (Int × Int)) (w : World) (h1 : SrcRd w w.heap.size g1 f1) (h2 : SrcRd w w.heap.size g2 f2) (hl : ∀ t : Nat, t < 7 → (f1 t).length ≤ 100000) :
    Calls Tryz.prog 100 #[.slice (some ⟨g1, 0, none⟩) 7 7, .slice (some ⟨g2, 0, none⟩) 7 7, .func (.func 102) #[] #[]] w fun e w' => e = .returned (.bool (eqRows f1 f2)) ∧ Below w.heap.size w w' := by
  have HF : Hid (eqRows f1 f2 = eqGo f1 f2 7 (0 : Nat)) := Lib.hid (eqGo_eq f1 f2).symm
  have HC := Lib.hid call_eqSrc
  have K := hide (fun w' (hb : Below w.heap.size w w') => And.intro (h1.below hb) (h2.below hb))
  have HLN := Lib.hid hl
  clear h1 h2 hl
  generalize eqRows f1 f2 = R at *
  go_enter Tryz.func100, Tryz.ntmps100
  go_wp2
  go_loopw [17] (fun s17 wr => ∃ t r : Nat, t + r = 7 ∧ s17 = .int .i64 t ∧ Hid (R = eqGo f1 f2 r t) ∧ Below w.heap.size w wr) (fun s17 _ => 7 - (intOf s17).toNat)
  case atStart => exact ⟨0, 7, rfl, rfl, HF, Below.refl _ _⟩
  case round =>
    clear HF
    obtain ⟨t, r, htr, rfl, HE, hbw⟩ := hrel
    by_cases ht7 : t < 7
    · obtain ⟨r', rfl⟩ : ∃ r', r = r' + 1 := ⟨r - 1, by omega⟩
      have HE2 := Lib.hid (HE.out.trans (eqGo_step f1 f2 r' t))
      obtain ⟨k1, k2⟩ := unhide K wr hbw
      obtain ⟨A1, c1, x1, y1⟩ := k1.2 t ht7
      obtain ⟨A2, c2, x2, y2⟩ := k2.2 t ht7
      have C := hide (eqSrc_any A1 A2 _ _ c1 c2 _ _ wr (y1.more hbw.size) (y2.more hbw.size) (by have := HLN.out t ht7; omega))
      have hc := HC.out
      have j0 : (0 : Int) ≤ (t : Int) := by omega
      have j1 : (t : Int) < 7 := by omega
      clear HE y1 y2 k1 k2
      by_cases he : f1 t = f2 t
      · have HE3 : Hid (R = eqGo f1 f2 r' (t + 1 : Nat)) := Lib.hid (by rw [HE2.out, decide_eq_true he, Bool.true_and]; rfl)
        rw [decide_eq_true he] at C
        clear he HE2
        go_wp2_with fail
        refine (unhide C).mono ?_
        rintro e w' ⟨rfl, hb'⟩
        have hbw' := hbw.trans (hb'.mono hbw.size)
        clear C hb' hc
        go_wp2
        go_roundw
        case rel => exact ⟨t + 1, r', by omega, by go_num, HE3, hbw'⟩
        case measure => simp [intOf]; omega
      · have HE3 : Hid (R = false) := Lib.hid (by rw [HE2.out, decide_eq_false he, Bool.false_and])
        rw [decide_eq_false he] at C
        clear he HE2
        go_wp2_with fail
        refine (unhide C).mono ?_
        rintro e w' ⟨rfl, hb'⟩
        have hbw' := hbw.trans (hb'.mono hbw.size)
        clear C hb' hc
        go_wp2
        go_ret
        exact ⟨ret_bool HE3.out.symm, hbw'⟩
    · obtain rfl : r = 0 := by omega
      have HE3 : Hid (R = true) := Lib.hid HE.out
      go_wp2
      go_ret
      exact ⟨ret_bool HE3.out.symm, hbw⟩

/-! ### view.alike. -/
set_option maxRecDepth 100000 in
set_option maxHeartbeats 4000000 in
theorem valike_any (A B : Option Addr) (n m c d : Nat) (h g : List HOp) (w : World) (hr : Rd w w.heap.size 3 A n (cellsH h)) (hg : Rd w w.heap.size 3 B m (cellsH g)) (hn : n ≤ 40) (hm : m ≤ 40) (hth : ∀ o ∈ h, rightB o = true) (htg : ∀ o ∈ g, rightB o = true) :
    Calls Tryz.prog 53 #[.slice A n c, .slice B m d] w fun e w' => e = .returned (.bool (viewB h g)) ∧ Below w.heap.size w w' := by
  have K := hide (fun w' (hb : Below w.heap.size w w') => And.intro ((hr.below hb).more hb.size) ((hg.below hb).more hb.size))
  have HV : Hid (viewB h g = (sameOwnB h g && (decide (lastL h = lastL g) && eqRows (srcF h).out (srcF g).out))) := Lib.hid rfl
  have HL1 := Lib.hid (look_last hth)
  have HL2 := Lib.hid (look_last htg)
  have HO : Hid (∀ t : Nat, t < 7 → ((srcF h).out t).length ≤ 100000) := Lib.hid (fun t _ => by have := out_le h t; have := hr.hlen; omega)
  have HT := Lib.hid (And.intro hth htg)
  clear hr hg hth htg
  generalize viewB h g = R at *
  have C1 := hide (look_any A n c h w (unhide K w (Below.refl _ _)).1 (by omega) HT.out.1)
  go_enter Tryz.func53, Tryz.ntmps53
  go_wp2_with fail
  refine (unhide C1).mono ?_
  rintro e w1 ⟨v1, v2, m1, rfl, ho1, ho2, hb1⟩
  obtain ⟨A1, c1, rfl⟩ := own_slice ho1
  obtain ⟨A2, c2, rfl⟩ := own_slice ho2
  rw [HL1.out] at ho2
  have hd2 := rd_own ho2
  have C2 := hide (look_any B m d g w1 (unhide K w1 hb1).2 (by omega) HT.out.2)
  clear C1 ho1 ho2
  go_wp2_with fail
  refine (unhide C2).mono ?_
  rintro e w2 ⟨v3, v4, m3, rfl, ho3, ho4, hb2⟩
  obtain ⟨A3, c3, rfl⟩ := own_slice ho3
  obtain ⟨A4, c4, rfl⟩ := own_slice ho4
  rw [HL2.out] at ho4
  have hd4 := rd_own ho4
  have hd24 := (hd2.below hb2).more hb2.size
  have hbw2 := hb1.trans (hb2.mono hb1.size)
  have C3 := hide (sameDeals_any A B n m c d h g w2 (unhide K w2 hbw2).1 (unhide K w2 hbw2).2 (by omega) (by omega))
  clear C2 ho3 ho4 hb2 hd2 hb1
  cases hs : sameOwnB h g
  · have HV2 : Hid (R = false) := Lib.hid (by rw [HV.out, hs]; rfl)
    rw [hs] at C3
    clear hs HV
    go_wp2_with fail
    refine (unhide C3).mono ?_
    rintro e w3 ⟨rfl, hb3⟩
    go_wp2
    go_ret
    exact ⟨ret_bool HV2.out.symm, hbw2.trans (hb3.mono hbw2.size)⟩
  · have HV2 : Hid (R = (decide (lastL h = lastL g) && eqRows (srcF h).out (srcF g).out)) := Lib.hid (by rw [HV.out, hs]; rfl)
    rw [hs] at C3
    clear hs HV
    go_wp2_with fail
    refine (unhide C3).mono ?_
    rintro e w3 ⟨rfl, hb3⟩
    have hbw3 := hbw2.trans (hb3.mono hbw2.size)
    have C4 := hide (equalI_any A2 A4 6 6 c2 c4 (lastL h) (lastL g) w3 ((hd24.below hb3).more hb3.size) ((hd4.below hb3).more hb3.size) (by omega))
    clear C3 hb3 hd24 hd4 hbw2
    by_cases hl : lastL h = lastL g
    · have HV3 : Hid (R = eqRows (srcF h).out (srcF g).out) := Lib.hid (by rw [HV2.out, decide_eq_true hl]; rfl)
      rw [decide_eq_true hl] at C4
      clear hl HV2
      go_wp2_with fail
      refine (unhide C4).mono ?_
      rintro e w4 ⟨rfl, hb4⟩
      have hbw4 := hbw3.trans (hb4.mono hbw3.size)
      have C5 := hide (vsources_any A n c h w4 (unhide K w4 hbw4).1 hn HT.out.1)
      clear C4 hb4 hbw3
      go_wp2_with fail
      refine (unhide C5).mono ?_
      rintro e w5 ⟨vs5, rfl, hro5, hb5⟩
      have hbw5 := hbw4.trans (hb5.mono hbw4.size)
      have hs5 := hro5.rd
      have C6 := hide (vsources_any B m d g w5 (unhide K w5 hbw5).2 hm HT.out.2)
      clear C5 hb5 hbw4 hro5
      go_wp2_with fail
      refine (unhide C6).mono ?_
      rintro e w6 ⟨vs6, rfl, hro6, hb6⟩
      have hbw6 := hbw5.trans (hb6.mono hbw5.size)
      have hs6 := hro6.rd
      have C7 := hide (eqFunc_any w4.heap.size w5.heap.size (srcF h).out (srcF g).out w6 ((hs5.below hb6).more hb6.size) hs6 HO.out)
      clear C6 hb6 hbw5 hro6 hs5 hs6
      go_wp2_with fail
      refine (unhide C7).mono ?_
      rintro e w7 ⟨rfl, hb7⟩
      go_wp2
      go_ret
      exact ⟨ret_bool HV3.out.symm, hbw6.trans (hb7.mono hbw6.size)⟩
    · have HV3 : Hid (R = false) := Lib.hid (by rw [HV2.out, decide_eq_false hl]; rfl)
      rw [decide_eq_false hl] at C4
      clear hl HV2
      go_wp2_with fail
      refine (unhide C4).mono ?_
      rintro e w4 ⟨rfl, hb4⟩
      go_wp2
      go_ret
      exact ⟨ret_bool HV3.out.symm, hbw3.trans (hb4.mono hbw3.size)⟩
end Go.Proofs.YtaaahfbcpgdoiaaGreatDoor


namespace Go.Proofs.YtaaahfbcpgdoiaaGreatDoor
open Go.RowKit

/-! ### view.Same. -/
def vsV (h g : List HOp) : Bool := decide ((checkF h).2 = 0 ∧ (checkF g).2 = 0) && viewB (doneL h) (doneL g)
def vsE (h g : List HOp) : Int := if (checkF h).2 ≠ 0 then (checkF h).2 else (checkF g).2
/-! ### view.first. -/
def FirstPost (R : Option (List Int)) (w : World) (e : Ending) (w' : World) : Prop :=
  Below w.heap.size w w' ∧ ((R = none ∧ e = .returned (.slice none 0 0)) ∨ ∃ L a n c, R = some L ∧ e = .returned (.slice (some a) n c) ∧ Rd w' w'.heap.size 1 (some a) n (cellsI L))
theorem tryL_step {g : Int → Option (List Int)} {d : Int} {l t : List Int} (h : l = d :: t) : tryL g l = match g d with | some o => some o | none => tryL g t := by
  rw [h, tryL]
  cases g d <;> rfl
set_option maxRecDepth 100000 in
set_option maxHeartbeats 4000000 in
theorem first_any (w0 : World) (A : Option Addr) (n c : Nat) (deals : List Int) (F : FuncId) (caps : Array Value) (is : List Int → Bool) (hd : Rd w0 w0.heap.size 1 A n (cellsI deals)) (hn : n ≤ 1000)
    (hcall : ∀ (args : Array Value) (w : World), (callFunc F args).run Tryz.prog w = .ok (.enter F args) w)
    (hf : ∀ (o : List Int) (a : Addr) (k : Nat) (w1 : World), Below w0.heap.size w0 w1 → Rd w1 w1.heap.size 1 (some a) n (cellsI o) → o.Nodup → (∀ x ∈ o, x ∈ deals) →
      Calls Tryz.prog F (#[.slice (some a) n k] ++ caps) w1 fun e w' => e = .returned (.bool (is o)) ∧ Below w1.heap.size w1 w') :
    ∀ (f : Nat) (begun : List Int) (A1 : Option Addr) (n1 c1 : Nat) (w : World), n1 + f = n → 0 < n → begun.Nodup → (∀ x ∈ begun, x ∈ deals) → Below w0.heap.size w0 w → Rd w w.heap.size 1 A1 n1 (cellsI begun) →
    Calls Tryz.prog 50 #[.slice A n c, .slice A1 n1 c1, .func (.func F) #[] caps] w (FirstPost (permGo deals is f begun) w) := by
  have HDL := Lib.hid hd.ilen
  have HD := hide hd
  have HF := hide hf
  have HCALL := Lib.hid hcall
  clear hd hf hcall
  intro f
  induction f with
  | zero =>
    intro begun A1 n1 c1 w hnf hn0 hnd hsub hb0 hw
    obtain rfl : n1 = n := by omega
    obtain ⟨b, off, x, he, hb, hx, c0⟩ := hw.int (k := 0) (by omega)
    cases he
    have CF := hide (unhide HF begun ⟨b, off, none⟩ c1 w hb0 hw hnd hsub)
    have HR : Hid (permGo deals is 0 begun = if is begun = true then some begun else none) := Lib.hid rfl
    have hcall := HCALL.out
    have hq := hw
    clear hx c0 HF HD hnd hsub
    generalize permGo deals is 0 begun = R at *
    cases hi : is begun
    · have HR2 : Hid (R = none) := Lib.hid (by rw [HR.out, hi]; rfl)
      rw [hi] at CF
      clear hi HR
      go_enter Tryz.func50, Tryz.ntmps50
      go_wp2_with fail
      refine (unhide CF).mono ?_
      rintro e w1 ⟨rfl, hb1⟩
      clear hcall
      go_wp2
      go_ret
      exact ⟨hb1, .inl ⟨HR2.out, rfl⟩⟩
    · have HR2 : Hid (R = some begun) := Lib.hid (by rw [HR.out, hi]; rfl)
      rw [hi] at CF
      clear hi HR
      go_enter Tryz.func50, Tryz.ntmps50
      go_wp2_with fail
      refine (unhide CF).mono ?_
      rintro e w1 ⟨rfl, hb1⟩
      clear hcall
      go_wp2
      go_ret
      exact ⟨hb1, .inr ⟨begun, _, _, _, HR2.out, rfl, (hw.below hb1).more hb1.size⟩⟩
  | succ f ih =>
    intro begun A1 n1 c1 w hnf hn0 hnd hsub hb0 hw
    have HR : Hid (permGo deals is (f + 1) begun = tryL (fun d => if d ∈ begun then none else permGo deals is f (begun ++ [d])) (deals.drop 0)) := Lib.hid (by rw [permGo, List.drop_zero])
    have HIH := hide ih
    have HND := Lib.hid (And.intro hnd hsub)
    have CI := hide (fun w1 (d : Int) (hb : Below w.heap.size w w1) => icontains_rd A1 n1 c1 begun d w1 _ (hw.below hb) (by omega))
    have CL := hide (fun w1 (hb : Below w.heap.size w w1) => clone_int A1 n1 c1 (cellsI begun) w1 ((hw.below hb).more hb.size) (oneI _) (by omega))
    have hnq := fun (w : World) (a : Option Addr) (n c : Nat) => run_neq_slice_nil_any (P := Tryz.prog) w 24 3 a n c 0 0 Tryz.underlying24
    have HNF := Lib.hid (And.intro hnf hn0)
    have hnm : ((n1 : Int) == (n : Int)) = false := by simp; omega
    have HB0 := hide (fun w1 (hb : Below w.heap.size w w1) => hb0.trans (hb.mono hb0.size))
    have hn1 : n1 ≤ 1000 := by omega
    clear ih hnd hsub hnf hn0 hw hb0
    generalize permGo deals is (f + 1) begun = R at *
    go_enter Tryz.func50, Tryz.ntmps50
    go_wp2
    clear hnm
    go_loopw [21] (fun s21 wr => ∃ k : Nat, k ≤ n ∧ s21 = .int .i64 k ∧ Hid (R = tryL (fun d => if d ∈ begun then none else permGo deals is f (begun ++ [d])) (deals.drop k)) ∧ Below w.heap.size w wr) (fun s21 _ => n - (intOf s21).toNat)
    case atStart => exact ⟨0, Nat.zero_le _, rfl, HR, Below.refl _ _⟩
    case round =>
      clear HR
      obtain ⟨k, hk, rfl, HE, hbw⟩ := hrel
      by_cases hlt : k < n
      · obtain ⟨b, off, d, he, hb, hd, c0⟩ := ((unhide HD).below (unhide HB0 wr hbw)).int (k := k) hlt
        cases he
        have HE2 := Lib.hid (HE.out.trans (tryL_step (drop_at hd)))
        have HDM := Lib.hid (List.mem_of_getElem? hd)
        have CI2 := hide (unhide CI wr d hbw)
        clear HE hd
        by_cases h2 : d ∈ begun
        · have HE3 : Hid (R = tryL (fun d => if d ∈ begun then none else permGo deals is f (begun ++ [d])) (deals.drop (k + 1))) := Lib.hid (by rw [HE2.out, if_pos h2])
          rw [decide_eq_true h2] at CI2
          clear h2 HE2
          go_wp2_with fail
          refine (unhide CI2).mono ?_
          rintro e w' ⟨rfl, rfl⟩
          go_wp2
          go_roundw
          case rel => exact ⟨k + 1, by omega, by go_num, HE3, hbw⟩
          case measure => simp [intOf]; omega
        · have HE3 : Hid (R = match permGo deals is f (begun ++ [d]) with | some L => some L | none => tryL (fun d => if d ∈ begun then none else permGo deals is f (begun ++ [d])) (deals.drop (k + 1))) := Lib.hid (by rw [HE2.out]; simp only [if_neg h2])
          have HN2 : Hid ((begun ++ [d]).Nodup ∧ ∀ x ∈ begun ++ [d], x ∈ deals) := Lib.hid ⟨List.nodup_append.2 ⟨HND.out.1, by simp, fun x hx y hy e => h2 (by rw [List.mem_singleton] at hy; rw [← hy, ← e]; exact hx)⟩, fun x hx => by
            rcases List.mem_append.1 hx with hx | hx
            · exact HND.out.2 x hx
            · rw [List.mem_singleton.1 hx]; exact HDM.out⟩
          rw [decide_eq_false h2] at CI2
          clear h2 HE2
          go_wp2_with fail
          refine (unhide CI2).mono ?_
          rintro e w' ⟨rfl, rfl⟩
          have CL2 := hide (unhide CL wr hbw)
          go_wp2_with fail
          refine (unhide CL2).mono ?_
          rintro e w2 ⟨v2, rfl, ho2, hb2⟩
          obtain ⟨A2, c2, rfl⟩ := own_slice ho2
          have hbw2 := hbw.trans (hb2.mono hbw.size)
          have hz2 : wr.heap.size ≤ w2.heap.size := hb2.size
          clear CI2 CL2 hb2
          go_wp2_with (at_builtin; (refine wpList_app rfl (.tmp 31) (.tmp 33) _ rfl wr.heap.size slt_ints (n := n1) (xs := cellsI begun) (m := 1) (news := cellsI [d]) rfl (own_alloc ho2 _) rfl (rd_new' _ _ (cellsI [d]) (by simp) rfl) (oneI _) (by omega) (by simp; omega) ?_; intro v5 w5 hown5 hg5 hb5 hat5 hne5; obtain ⟨A5, c5, rfl⟩ := own_slice hown5))
          have e1 : cellsI begun ++ cellsI [d] = cellsI (begun ++ [d]) := by simp [cellsI]
          rw [e1] at hown5
          have hbw5 := (hbw2.alloc hbw2.size (.cells (cellsI [d]).toArray 3)).trans (hb5.mono hbw.size)
          have CR := hide (unhide HIH (begun ++ [d]) A5 (n1 + 1) c5 w5 (by have := HNF.out; omega) HNF.out.2 HN2.out.1 HN2.out.2 (unhide HB0 w5 hbw5) (rd_own hown5))
          clear e1 hg5 hat5 hne5 ho2 hbw2 hb5 hown5
          refine (unhide CR).mono ?_
          rintro e w6 ⟨hb6, hcs⟩
          have hbw6 := hbw5.trans (hb6.mono hbw5.size)
          rcases hcs with ⟨hnone, rfl⟩ | ⟨L, a6, n6, c6, hsome, rfl, hd6⟩
          · have HE4 : Hid (R = tryL (fun d => if d ∈ begun then none else permGo deals is f (begun ++ [d])) (deals.drop (k + 1))) := Lib.hid (by rw [HE3.out, hnone])
            clear hnone HE3 CR
            go_wp2
            go_roundw
            case rel => exact ⟨k + 1, by omega, by go_num, HE4, hbw6⟩
            case measure => simp [intOf]; omega
          · have HE4 : Hid (R = some L) := Lib.hid (by rw [HE3.out, hsome])
            clear hsome HE3 CR
            go_wp2
            go_ret
            exact ⟨hbw6, .inr ⟨L, _, _, _, HE4.out, rfl, hd6⟩⟩
      · have HE4 : Hid (R = none) := Lib.hid (by rw [HE.out, drop_end (by rw [HDL.out]; omega)]; rfl)
        clear HE
        go_wp2
        go_ret
        exact ⟨hbw, .inl ⟨HE4.out, rfl⟩⟩

/-! ### view.Order. -/
theorem call_vord1 (args : Array Value) (w : World) : (callFunc 52 args).run Tryz.prog w = .ok (.enter 52 args) w := by kernel_rfl
set_option maxRecDepth 100000 in
set_option maxHeartbeats 4000000 in
theorem vord1_any (A : Option Addr) (n c : Nat) (D : List HOp) (a : Addr) (k q g : Nat) (o : List Int) (w : World) (hB : Blk w g 29 [.slice A n c]) (hr : Rd w w.heap.size 3 A n (cellsH D)) (ho : Rd w w.heap.size 1 (some a) k (cellsI o)) (hn : n ≤ 40) (hk : k ≤ 6) (hD : ∀ x ∈ D, rightB x = true) (hl : (alongL D o).length ≤ 40) :
    Calls Tryz.prog 52 (#[.slice (some a) k q] ++ #[.pointer (some ⟨g, 0, none⟩)]) w fun e w' => e = .returned (.bool (viewB D (alongL D o))) ∧ Below w.heap.size w w' := by
  have HD := Lib.hid (And.intro hD (fun x (hx : x ∈ alongL D o) => hD x (mem_along.1 hx).1))
  have HL := Lib.hid hl
  have C1 := hide (along_any A (some a) n k c q D o w.drew hr ho (by omega) (by omega))
  have e0 := hB.cellS (i := 0) (v := .slice A n c) rfl
  have K := hide (fun w' (hb : Below w.heap.size w w') => (hr.below hb).more hb.size)
  have HB := hide hB
  have hlt := hB.lt
  have hb0 : Below w.heap.size w w.drew := (Below.refl _ _).drew
  have CA := hide (fun A2 m2 c2 w2 (hb : Below w.heap.size w w2) (hd2 : Rd w2 w2.heap.size 3 A2 m2 (cellsH (alongL D o))) => valike_any A A2 n m2 c c2 D (alongL D o) w2 (unhide K w2 hb) hd2 hn (by rw [← hd2.hlen]; exact HL.out) HD.out.1 HD.out.2)
  have hzw : w.drew.heap.size = w.heap.size := rfl
  clear hl hD ho hr hB
  generalize viewB D (alongL D o) = R at *
  show Calls Tryz.prog 52 #[.slice (some a) k q, .pointer (some ⟨g, 0, none⟩)] w _
  go_enter Tryz.func52, Tryz.ntmps52
  go_wp2
  go_region_held3 (fun w' => w'.cell? ⟨g, 0, none⟩ = some (.slice A n c)) (first | exact e0 | exact hc2 | exact hc3)
    (first
      | (go_at_call 54; (with_reducible refine (unhide C1).mono ?_); rintro e w2 ⟨v2, q2, rfl, ho2, hq2, hb2⟩; obtain ⟨A2, c2, rfl⟩ := own_slice ho2; have hd2 := rd_own ho2; have hbw2 := hb0.trans (hb2.mono (Nat.le_of_eq hzw.symm)); have hc2 : w2.cell? ⟨g, 0, none⟩ = some (.slice A n c) := ((unhide HB).below hbw2 hlt).cellS rfl; have C2 := hide (unhide CA A2 q2 c2 w2 hbw2 hd2))
      | (go_at_call 53; (with_reducible refine (unhide C2).mono ?_); rintro e w3 ⟨rfl, hb3⟩; have hbw3 := hbw2.trans (hb3.mono hbw2.size); have hc3 : w3.cell? ⟨g, 0, none⟩ = some (.slice A n c) := ((unhide HB).below hbw3 hlt).cellS rfl))
  go_wp2
  go_ret
  exact ⟨rfl, hbw3⟩

def vordE (h : List HOp) : Int := if (checkF h).2 ≠ 0 then (checkF h).2 else match vOrd (doneL h) with | some _ => 0 | none => 5
def vordL (h : List HOp) : List Int := if (checkF h).2 ≠ 0 then [] else (vOrd (doneL h)).getD []
theorem vord_some {h : List HOp} (hk : okH h) {o : List Int} (ho : vOrd (doneL h) = some o) : vordE h = 0 ∧ vordL h = o := by
  unfold vordE vordL
  rw [if_neg (fun e => e hk), if_neg (fun e => e hk), ho]
  exact ⟨rfl, rfl⟩
theorem vord_none {h : List HOp} (hk : okH h) (ho : vOrd (doneL h) = none) : vordE h = 5 ∧ vordL h = [] := by
  unfold vordE vordL
  rw [if_neg (fun e => e hk), if_neg (fun e => e hk), ho]
  exact ⟨rfl, rfl⟩
theorem vord_bad {h : List HOp} (hk : ¬ okH h) : vordE h = (checkF h).2 ∧ vordL h = [] := by
  unfold vordE vordL
  rw [if_pos (show (checkF h).2 ≠ 0 from hk), if_pos (show (checkF h).2 ≠ 0 from hk)]
  exact ⟨rfl, rfl⟩
theorem vOrd_nil : vOrd [] = some [] := by decide
set_option maxRecDepth 100000 in
set_option maxHeartbeats 4000000 in
theorem vorder_any (A : Option Addr) (n cap : Nat) (h : List HOp) (w : World) (hr : Rd w w.heap.size 3 A n (cellsH h)) (hm : n ≤ 6000000000000) :
    Calls Tryz.prog 25 #[.slice A n cap] w fun e w' => ∃ A' k c', e = .returned (.tuple #[.slice A' k c', errV (vordE h)]) ∧ Rd w' w'.heap.size 1 A' k (cellsI (vordL h)) ∧ Below w.heap.size w w' := by
  have hb0 : Below w.heap.size w (w.alloc (.cells #[.slice A n cap] 29)) := (Below.refl _ _).alloc (Nat.le_refl _) _
  have hB0 := Blk.new w 29 [.slice A n cap]
  have C0 := hide (right_h A n cap h _ ((hr.below hb0).more hb0.size) hm)
  have e0 := hB0.cellS (i := 0) (v := .slice A n cap) rfl
  by_cases hok : okH h
  · have hn : n ≤ 40 := by rw [← hr.hlen]; exact okH_len hok
    have CD := hide (fun w1 (hb : Below w.heap.size w w1) => doneOf_any A n cap h w1 ((hr.below hb).more hb.size) (by omega) (okH_tx hok))
    have HD : Hid ((doneL h).length ≤ 40 ∧ (∀ o ∈ doneL h, rightB o = true) ∧ ∀ o ∈ doneL h, 1 ≤ o.tx ∧ o.tx ≤ 6) := Lib.hid ⟨Nat.le_trans (doneL_len2 h) (okH_len hok), fun o ho => okH_right hok o (List.mem_filter.1 ho).1, done_tx (okH_tx hok)⟩
    have HS := Lib.hid (fun o => vord_some hok (o := o))
    have HN := Lib.hid (vord_none hok)
    have HF : Hid (vOrd (doneL h) = permGo (dealsL (doneL h)) (fun o => viewB (doneL h) (alongL (doneL h) o)) (dealsL (doneL h)).length []) := Lib.hid rfl
    rw [show (checkF h).2 = 0 from hok, errV_zero] at C0
    have HB := hide hB0
    clear hr hok hB0
    generalize doneL h = D at *
    generalize vordE h = E at *
    generalize vordL h = L at *
    go_enter Tryz.func25, Tryz.ntmps25
    go_wp2_with fail
    refine (unhide C0).mono ?_
    rintro e w1 ⟨rfl, hb1⟩
    have hbw1 := hb0.trans (hb1.mono hb0.size)
    have hB1 := (unhide HB).below hb1 (unhide HB).lt
    have e1 := hB1.cellS (i := 0) (v := .slice A n cap) rfl
    have C1 := hide (unhide CD w1 hbw1)
    clear C0 CD hb1 HB e0
    go_wp2_with fail
    refine (unhide C1).mono ?_
    rintro e w2 ⟨A2, m2, c2, rfl, ho2, hb2⟩
    have hbw2 := hbw1.trans (hb2.mono hbw1.size)
    have hd2 := rd_own ho2
    have HL2 := Lib.hid hd2.hlen
    have hm2 : m2 ≤ 40 := by rw [← hd2.hlen]; exact HD.out.1
    have hB2 := hB1.below hb2 hB1.lt
    have e2 := hB2.cellS (i := 0) (v := .slice A n cap) rfl
    have f2 := hB2.frozen 0
    have hB3 := hB2.put 0 (.slice A2 m2 c2)
    have hb23 : Below w.heap.size w (w2.setCell ⟨w.heap.size, 0, none⟩ (.slice A2 m2 c2)) := hbw2.setCell (p := ⟨w.heap.size, 0, none⟩) (Nat.le_refl _) _
    have hA2 : ∀ k, (Value.slice A2 m2 c2).ownBlock = some k → k ≠ w.heap.size := fun k hk => by
      have := (ho2.lt k hk).1
      have := hB1.lt
      omega
    have ho3 : (w2.setCell ⟨w.heap.size, 0, none⟩ (.slice A2 m2 c2)).ownsRow w1.heap.size 91 3 (.slice A2 m2 c2) m2 (cellsH D) := own_far ho2 hB1.lt _
    have hd3 : Rd (w2.setCell ⟨w.heap.size, 0, none⟩ (.slice A2 m2 c2)) (w2.setCell ⟨w.heap.size, 0, none⟩ (.slice A2 m2 c2)).heap.size 3 A2 m2 (cellsH D) := rd_own ho3
    have e3 := hB3.cellS (i := 0) (v := .slice A2 m2 c2) rfl
    clear C1 hb2 hB1 e1 ho2 ho3 hd2 hA2 hbw1 hB2
    have hgz : w.heap.size < (w2.setCell ⟨w.heap.size, 0, none⟩ (.slice A2 m2 c2)).heap.size := hB3.lt
    by_cases h0 : m2 = 0
    · subst h0
      have hDn : D = [] := List.eq_nil_of_length_eq_zero HL2.out
      have HH := Lib.hid (HS.out [] (by rw [hDn]; exact vOrd_nil))
      clear hDn HS HN HF
      go_wp2
      go_ret2
      exact ⟨_, 0, _, by rw [HH.out.1]; rfl, by rw [HH.out.2]; exact Rd.nil, hb23⟩
    · have t0 : ((m2 : Int) == 0) = false := by simp; omega
      have C3 := hide (dealsOf_any A2 m2 c2 D _ hd3 (by omega))
      have HLD : Hid ((dealsL D).length ≤ 6 ∧ 0 < (dealsL D).length) := Lib.hid ⟨dealsL_len HD.out.2.2, by
        have hlen := HL2.out
        cases hDD : D with
        | nil => rw [hDD] at hlen; simp at hlen; omega
        | cons x r =>
          have hx : x.tx ∈ dealsL (x :: r) := mem_dealsL.2 ⟨x, List.mem_cons_self, rfl⟩
          exact List.length_pos_of_mem hx⟩
      clear h0 HL2
      go_wp2_with fail
      generalize hw3 : w2.setCell ⟨w.heap.size, 0, none⟩ (.slice A2 m2 c2) = w3 at *
      clear hw3
      refine (unhide C3).mono ?_
      rintro e w4 ⟨v4, m4, rfl, ho4, hm4, hb4⟩
      obtain ⟨A4, c4, rfl⟩ := own_slice ho4
      have hd4 := rd_own ho4
      have HI4 := Lib.hid hd4.ilen
      have hm46 : m4 ≤ 6 := by rw [← HI4.out]; exact HLD.out.1
      have hm40 : 0 < m4 := by rw [← HI4.out]; exact HLD.out.2
      have hB4 := hB3.below hb4 hB3.lt
      have hd34 := (hd3.below hb4).more hb4.size
      have hbw4 := hb23.trans (hb4.mono hb23.size)
      have e4 := hB4.cellS (i := 0) (v := .slice A2 m2 c2) rfl
      have CF := hide (first_any w4 A4 m4 c4 (dealsL D) 52 #[.pointer (some ⟨w.heap.size, 0, none⟩)] (fun o => viewB D (alongL D o)) hd4 (by omega) call_vord1
        (fun o a k w1 hb hro hnd hsub => vord1_any A2 m2 c2 D a m4 k w.heap.size o w1 (hB4.below hb hB4.lt) ((hd34.below hb).more hb.size) hro hm2 hm46 HD.out.2.1
          (by
            have hfull := full_mem hnd hsub (by rw [hro.ilen, HI4.out])
            have hp := along_perm (D := D) hnd (along_all hfull)
            rw [hp.length_eq]; exact HD.out.1))
        m4 [] none 0 0 w4 (by omega) hm40 List.nodup_nil (by simp) (Below.refl _ _) Rd.nil)
      have HF2 : Hid (vOrd D = permGo (dealsL D) (fun o => viewB D (alongL D o)) m4 []) := Lib.hid (by rw [HF.out, HI4.out])
      clear C3 ho4 hb4 hd4 hB3 e3 hd3 hd34 HF
      go_wp2_with fail
      refine (unhide CF).mono ?_
      rintro e w5 ⟨hb5, hcs⟩
      have hbw5 := hbw4.trans (hb5.mono hbw4.size)
      have hnq := fun (w : World) (a : Option Addr) (n c : Nat) => Lib.run_eql_slice_nil (P := Tryz.prog) w 24 3 a n c 0 0 Tryz.underlying24
      rcases hcs with ⟨hnone, rfl⟩ | ⟨L5, a5, n5, c5, hsome, rfl, hd5⟩
      · have HH := Lib.hid (HN.out (by rw [HF2.out]; exact hnone))
        clear hnone CF HS HN HF2
        go_wp2
        go_ret2
        exact ⟨_, 0, _, by rw [HH.out.1]; rfl, by rw [HH.out.2]; exact Rd.nil, hbw5⟩
      · have HH := Lib.hid (HS.out L5 (by rw [HF2.out]; exact hsome))
        clear hsome CF HS HN HF2
        go_wp2
        go_ret2
        exact ⟨_, _, _, by rw [HH.out.1]; rfl, by rw [HH.out.2]; exact hd5, hbw5⟩
  · have HB := Lib.hid (vord_bad hok)
    rw [HB.out.1, HB.out.2]
    rw [ne_errV (show (checkF h).2 ≠ 0 from hok)] at C0 ⊢
    generalize (checkF h).2 = ev at *
    clear HB hok hr hB0
    go_enter Tryz.func25, Tryz.ntmps25
    go_wp2_with fail
    refine (unhide C0).mono ?_
    rintro e w1 ⟨rfl, hb1⟩
    go_wp2
    go_ret2
    exact ⟨_, 0, _, rfl, Rd.nil, hb0.trans (hb1.mono hb0.size)⟩
end Go.Proofs.YtaaahfbcpgdoiaaGreatDoor
