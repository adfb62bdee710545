
/-
  CONTRACTS of view.look, Last.
  CONTRACTS of lanesame.Ints, Ops: whether two lists are the same.
  CONTRACT of lanesame.Sources: whether two lists of sources are the same. A list of pairs read.
  CONTRACT of odds.At.
  A slice of edges that the call owns.
  CONTRACTS of odds.pairs, odds.Pairs.
-/
import Derived.Test.YtaaahfbcpgdoiaaGreatDoorQ3
import Derived.Test.YtaaahfbcpgdoiaaGreatDoorQ0
import Derived.Deep.QuietTactic
import Derived.BigQuiet
import Derived.StillTailTactics

namespace Go.Proofs.YtaaahfbcpgdoiaaGreatDoor
open Go.RowKit

def lookGo (i : Int) (last : List Int) (out : List (Int × Int)) : List HOp → List (Int × Int) × List Int
  | [] => (out, last)
  | o :: t =>
    if o.what = 1 then lookGo (i + 1) last (out ++ [(i, last.getD (o.item.toNat - 1) 0)]) t
    else if o.what = 2 then lookGo (i + 1) (last.set (o.item.toNat - 1) o.tx) out t
    else lookGo (i + 1) last out t
def lookF (h : List HOp) : List (Int × Int) × List Int := lookGo 0 (List.replicate 6 0) [] h

theorem dcells_append (a b : List (Int × Int)) : dcells (a ++ b) = dcells a ++ dcells b := by simp [dcells]
theorem oneD (l : List (Int × Int)) : ∀ u ∈ dcells l, u.oneCell' = true := by
  intro u hu
  simp only [dcells, List.mem_flatMap] at hu
  obtain ⟨o, _, ho⟩ := hu
  simp at ho
  rcases ho with rfl | rfl <;> rfl

theorem slt_src : SlT Tryz.prog 179 245 2 16 := slt_of (z := .agg #[.int .i64 0, .int .i64 0]) Tryz.underlying179 (by kernel_rfl) (by kernel_rfl) (by decide) (by decide)

set_option maxRecDepth 100000 in
set_option maxHeartbeats 1000000 in
theorem look_any (A : Option Addr) (n cap : Nat) (h : List HOp) (w : World) (hr : Rd w w.heap.size 3 A n (cellsH h)) (hm : n ≤ 1000000) (hok : ∀ o ∈ h, rightB o = true) :
    Calls Tryz.prog 97 #[.slice A n cap] w fun e w' => ∃ v1 v2 m, e = .returned (.tuple #[v1, v2]) ∧ w'.ownsRow w.heap.size 245 2 v1 m (dcells (lookF h).1) ∧ w'.ownsRow w.heap.size 3 1 v2 6 (cellsI (lookF h).2) ∧ Below w.heap.size w w' := by
  have HR := Lib.hid hok
  have HL := Lib.hid hr.hlen
  clear hok
  have hmk := make6
  go_enter Tryz.func97, Tryz.ntmps97
  go_wp2
  clear hmk
  go_loopw [4, 11] (fun s4 i wr => ∃ (k m : Nat) (last : List Int) (out : List (Int × Int)), k ≤ n ∧ i = .int .i64 k ∧ last.length = 6 ∧ Blk wr w.heap.size 3 (cellsI last) ∧ wr.ownsRow (w.heap.size + 1) 245 2 s4 m (dcells out) ∧ m ≤ k ∧
      Hid (lookF h = lookGo k last out (h.drop k)) ∧ Below w.heap.size w wr)
    (fun _ i _ => n - (intOf i).toNat)
  case atStart => exact ⟨0, 0, List.replicate 6 0, [], Nat.zero_le _, rfl, rfl, Blk.new w 3 (cellsI (List.replicate 6 0)), World.ownsRow_nil _ _ _ _, Nat.zero_le _, rfl, (Below.refl _ _).alloc (Nat.le_refl _) _⟩
  case round =>
    obtain ⟨k, m, last, out, hk, rfl, hll, hB, hown, hmk, HE, hbw⟩ := hrel
    obtain ⟨A4, c4, rfl⟩ := own_slice hown
    have hBlt := hB.lt
    by_cases hlt : k < n
    · obtain ⟨b, off, o, he, hb, ho, c0, c1, c2⟩ := (hr.below hbw).op (k := k) (by omega)
      cases he
      have hro := HR.out o (List.mem_of_getElem? ho)
      obtain ⟨tx, what, item⟩ := o
      have HO : Hid (h.drop k = ⟨tx, what, item⟩ :: h.drop (k + 1)) := drop_at ho
      clear ho
      obtain ⟨h1, h2, _, _, h3, _⟩ := rightB_get hro
      simp only at h1 h2 h3
      clear hro
      have hb' : b < wr.heap.size := by omega
      by_cases hw1 : what = 1
      · subst hw1
        obtain ⟨i1, i2⟩ := h3 (by omega)
        obtain ⟨v, hv⟩ : ∃ v, last[item.toNat - 1]? = some v := ⟨_, List.getElem?_eq_getElem (by omega)⟩
        have ev : wr.cell? ⟨w.heap.size, item.toNat - 1, none⟩ = some (.int .i64 v) := hB.cellS (by rw [cellsI, List.getElem?_map, hv]; rfl)
        have HE2 : Hid (lookF h = lookGo (k + 1 : Nat) last (out ++ [((k : Int), v)]) (h.drop (k + 1))) := Lib.hid (by rw [HE.out, HO.out]; simp [lookGo, hv])
        clear hv
        have i3 : item.toNat - 1 < 6 := by omega
        go_wp2_with (at_builtin; (refine wpList_app rfl (.tmp 20) (.tmp 29) _ rfl (w.heap.size + 1) slt_src (n := m) (xs := dcells out) (m := 1) (news := [.int .i64 (k : Int), .int .i64 v]) rfl (own_alloc (own_alloc hown _) _) rfl (rd_new' _ _ [.int .i64 (k : Int), .int .i64 v] (by simp) rfl) (oneD [((k : Int), v)]) (by omega) (by simp; omega) ?_; intro v5 w5 hown5 hg5 hb5 hat5 hne5; have hz5 := hb5.size; have hB5 := ((hB.alloc _).alloc _).below hb5 (by omega); have hw5 := ((hbw.alloc (by omega) _).alloc (by simp; omega) _).trans (hb5.mono (by omega)); clear hb5 hg5 hat5 hne5))
        go_roundw
        case rel => exact ⟨k + 1, m + 1, last, out ++ [((k : Int), v)], by omega, by go_num, hll, hB5, by rw [dcells_append]; exact hown5, by omega, HE2, hw5⟩
        case measure => simp [intOf]; omega
      have hne1 : (what == 1) = false := by simpa using hw1
      by_cases hw2 : what = 2
      · subst hw2
        clear hne1 hw1
        obtain ⟨i1, i2⟩ := h3 (by omega)
        obtain ⟨v, hv⟩ : ∃ v, last[item.toNat - 1]? = some v := ⟨_, List.getElem?_eq_getElem (by omega)⟩
        have ev : wr.cell? ⟨w.heap.size, item.toNat - 1, none⟩ = some (.int .i64 v) := hB.cellS (by rw [cellsI, List.getElem?_map, hv]; rfl)
        have fv : wr.frozen? ⟨w.heap.size, item.toNat - 1, none⟩ = false := hB.frozen _
        have HE2 : Hid (lookF h = lookGo (k + 1 : Nat) (last.set (item.toNat - 1) tx) out (h.drop (k + 1))) := Lib.hid (by rw [HE.out, HO.out]; simp [lookGo])
        clear hv
        have i3 : item.toNat - 1 < 6 := by omega
        go_wp2
        go_roundw
        case rel => exact ⟨k + 1, m, last.set (item.toNat - 1) tx, out, by omega, by go_num, by simp [hll], by rw [cellsI, List.map_set]; exact (hB.put _ _).alloc _, own_alloc (own_far hown (p := ⟨w.heap.size, item.toNat - 1, none⟩) (Nat.lt_succ_self _) _) _, by omega, HE2, (hbw.setCell (p := ⟨w.heap.size, item.toNat - 1, none⟩) (Nat.le_refl _) _).alloc (by simp; omega) _⟩
        case measure => simp [intOf]; omega
      · have hne2 : (what == 2) = false := by simpa using hw2
        have HE2 : Hid (lookF h = lookGo (k + 1 : Nat) last out (h.drop (k + 1))) := Lib.hid (by rw [HE.out, HO.out]; simp [lookGo, hw1, hw2])
        go_wp2
        go_roundw
        case rel => exact ⟨k + 1, m, last, out, by omega, by go_num, hll, hB.alloc _, own_alloc hown _, by omega, HE2, hbw.alloc (by omega) _⟩
        case measure => simp [intOf]; omega
    · have HF : Hid (lookF h = (out, last)) := Lib.hid (by rw [HE.out, drop_end (by rw [HL.out]; omega)]; rfl)
      have HO1 : Hid (wr.ownsRow w.heap.size 3 1 (.slice (some ⟨w.heap.size, 0, none⟩) 6 6) 6 (cellsI last)) := Lib.hid (own_blk hB (Nat.le_refl _) (by decide) (by simp [cellsI, hll]))
      go_wp2
      go_ret2
      exact ⟨_, _, m, rfl, by rw [HF.out]; exact own_mono hown (by omega), by rw [HF.out]; exact HO1.out, hbw⟩
end Go.Proofs.YtaaahfbcpgdoiaaGreatDoor


namespace Go.Proofs.YtaaahfbcpgdoiaaGreatDoor
open Go.RowKit

theorem below_drewN {B : Nat} {a w : World} (h : Below B a w) (n : Nat) : Below B a (w.drewN n) := ⟨h.os, h.tape, h.output, h.size, h.block⟩

theorem take_same {α : Type} {xs ys : List α} {k : Nat} {x y : α} (h : xs.take k = ys.take k) (hx : xs[k]? = some x) (hy : ys[k]? = some y) : (x = y → xs.take (k + 1) = ys.take (k + 1)) ∧ (x ≠ y → xs ≠ ys) := by
  refine ⟨fun e => ?_, fun e e2 => ?_⟩
  · rw [List.take_add_one, List.take_add_one, h, hx, hy, e]
  · subst e2; rw [hx] at hy; exact e (Option.some.inj hy)

end Go.Proofs.YtaaahfbcpgdoiaaGreatDoor


namespace Go.Proofs.YtaaahfbcpgdoiaaGreatDoor
open Go.RowKit

theorem dcells_length (l : List (Int × Int)) : (dcells l).length = l.length * 2 := by
  induction l with
  | nil => rfl
  | cons d t ih =>
    have e : dcells (d :: t) = [.int .i64 d.1, .int .i64 d.2] ++ dcells t := rfl
    rw [e, List.length_append, ih]; simp; omega
theorem Rd.dlen {w : World} {B n : Nat} {A : Option Addr} {l : List (Int × Int)} (h : Rd w B 2 A n (dcells l)) : l.length = n := by
  have hl := h.1
  rw [dcells_length] at hl
  omega
theorem Rd.pr {w : World} {B n : Nat} {A : Option Addr} {l : List (Int × Int)} (h : Rd w B 2 A n (dcells l)) {k : Nat} (hk : k < n) :
    ∃ b off d, A = some ⟨b, off, none⟩ ∧ b < B ∧ l[k]? = some d ∧ w.cell? ⟨b, off + k * 2, none⟩ = some (.int .i64 d.1) ∧ w.cell? ⟨b, off + k * 2 + 1, none⟩ = some (.int .i64 d.2) := by
  obtain ⟨b, off, e, hb, hc⟩ := h.2 (by omega)
  have hl := h.dlen
  have ho : l[k]? = some (l[k]'(by omega)) := List.getElem?_eq_getElem (by omega)
  obtain ⟨h0, h1⟩ := dcells_at ho
  exact ⟨b, off, _, e, hb, ho, hc _ _ h0, hc _ _ h1⟩

end Go.Proofs.YtaaahfbcpgdoiaaGreatDoor


namespace Go.Proofs.YtaaahfbcpgdoiaaGreatDoor
open Go.RowKit

def oddB (a b : HOp) : Bool := decide (a.tx ≠ b.tx ∧ a.item = b.item ∧ a.item ≠ 0 ∧ (a.what = 2 ∨ b.what = 2))

set_option maxHeartbeats 4000000 in
theorem at_any (a b : HOp) (w : World) : Calls Tryz.prog 153 #[a.val, b.val] w fun e w' => e = .returned (.bool (oddB a b)) ∧ Below w.heap.size w w' := by
  obtain ⟨a1, a2, a3⟩ := a
  obtain ⟨b1, b2, b3⟩ := b
  unfold HOp.val
  have hB : ∀ W : World, True := fun _ => trivial
  clear hB
  by_cases h1 : a1 = b1
  · have HF : Hid (oddB ⟨a1, a2, a3⟩ ⟨b1, b2, b3⟩ = false) := Lib.hid (by simp [oddB, h1])
    have h1b : (a1 != b1) = false := by simpa using h1
    go_enter Tryz.func153, Tryz.ntmps153
    go_wp2
    go_ret
    exact ⟨ret_bool HF.out.symm, ((Below.refl _ _).alloc (Nat.le_refl _) _).alloc (by simp) _⟩
  have h1b : (a1 != b1) = true := by simpa using h1
  by_cases h2 : a3 = b3
  · subst h2
    by_cases h3 : a3 = 0
    · have HF : Hid (oddB ⟨a1, a2, a3⟩ ⟨b1, b2, a3⟩ = false) := Lib.hid (by simp [oddB, h3])
      have h3b : (a3 != 0) = false := by simpa using h3
      go_enter Tryz.func153, Tryz.ntmps153
      go_wp2
      go_ret
      exact ⟨ret_bool HF.out.symm, ((Below.refl _ _).alloc (Nat.le_refl _) _).alloc (by simp) _⟩
    have h3b : (a3 != 0) = true := by simpa using h3
    by_cases h4 : a2 = 2
    · have HF : Hid (oddB ⟨a1, a2, a3⟩ ⟨b1, b2, a3⟩ = true) := Lib.hid (by simp [oddB, h1, h3, h4])
      have h4b : (a2 == 2) = true := by simpa using h4
      go_enter Tryz.func153, Tryz.ntmps153
      go_wp2
      go_ret
      exact ⟨ret_bool HF.out.symm, ((Below.refl _ _).alloc (Nat.le_refl _) _).alloc (by simp) _⟩
    · have HF : Hid (oddB ⟨a1, a2, a3⟩ ⟨b1, b2, a3⟩ = (b2 == 2)) := Lib.hid (by by_cases h5 : b2 = 2 <;> simp [oddB, h1, h3, h4, h5])
      have h4b : (a2 == 2) = false := by simpa using h4
      go_enter Tryz.func153, Tryz.ntmps153
      go_wp2
      go_ret
      exact ⟨ret_bool HF.out.symm, ((Below.refl _ _).alloc (Nat.le_refl _) _).alloc (by simp) _⟩
  · have HF : Hid (oddB ⟨a1, a2, a3⟩ ⟨b1, b2, b3⟩ = false) := Lib.hid (by simp [oddB, h2])
    have h2b : (a3 == b3) = false := by simpa using h2
    go_enter Tryz.func153, Tryz.ntmps153
    go_wp2
    go_ret
    exact ⟨ret_bool HF.out.symm, ((Below.refl _ _).alloc (Nat.le_refl _) _).alloc (by simp) _⟩
theorem ocellsP {w : World} {g : Nat} {t : TypeId} {a b c : Int} (h : Blk w g t [.int .i64 a, .int .i64 b, .int .i64 c]) :
    w.cell? ⟨g, 0, none⟩ = some (.int .i64 a) ∧ w.cell? ⟨g, 1, none⟩ = some (.int .i64 b) ∧ w.cell? ⟨g, 2, none⟩ = some (.int .i64 c) := ⟨h.cellS rfl, h.cellS rfl, h.cellS rfl⟩
end Go.Proofs.YtaaahfbcpgdoiaaGreatDoor


namespace Go.Proofs.YtaaahfbcpgdoiaaGreatDoor
open Go.RowKit
theorem slt_edge : SlT Tryz.prog 173 237 2 16 := slt_of (z := .agg #[.int .i64 0, .int .i64 0]) Tryz.underlying173 (by kernel_rfl) (by kernel_rfl) (by decide) (by decide)
end Go.Proofs.YtaaahfbcpgdoiaaGreatDoor


namespace Go.Proofs.YtaaahfbcpgdoiaaGreatDoor
open Go.RowKit

def pairsAt (a : HOp) (i k : Nat) : List HOp → List (Int × Int)
  | [] => []
  | b :: t => (if oddB a b then [((i : Int), (k : Int))] else []) ++ pairsAt a i (k + 1) t
def pairsGo (i : Nat) : List HOp → List (Int × Int)
  | [] => []
  | a :: t => pairsAt a i (i + 1) t ++ pairsGo (i + 1) t
def pairsL (h : List HOp) : List (Int × Int) := pairsGo 0 h
theorem pairsAt_step {a b : HOp} {i k : Nat} {l t : List HOp} (e : l = b :: t) : pairsAt a i k l = (if oddB a b then [((i : Int), (k : Int))] else []) ++ pairsAt a i (k + 1) t := by rw [e, pairsAt]
theorem pairsGo_step {a : HOp} {i : Nat} {l t : List HOp} (e : l = a :: t) : pairsGo i l = pairsAt a i (i + 1) t ++ pairsGo (i + 1) t := by rw [e, pairsGo]

set_option maxRecDepth 100000 in
set_option maxHeartbeats 4000000 in
theorem pairs_any (A : Option Addr) (n cap : Nat) (h : List HOp) (w : World) (hr : Rd w w.heap.size 3 A n (cellsH h)) (hm : n ≤ 40) :
    Calls Tryz.prog 141 #[.slice A n cap] w fun e w' => ∃ v m, e = .returned v ∧ w'.ownsRow w.heap.size 237 2 v m (dcells (pairsL h)) ∧ m ≤ 1600 ∧ Below w.heap.size w w' := by
  have HL := Lib.hid hr.hlen
  go_enter Tryz.func141, Tryz.ntmps141
  go_wp2
  go_loopw [3, 9] (fun s3 s9 wr => ∃ (i m : Nat) (acc : List (Int × Int)), i ≤ n ∧ s9 = .int .i64 i ∧ wr.ownsRow w.heap.size 237 2 s3 m (dcells acc) ∧ m ≤ i * 40 ∧ Hid (pairsL h = acc ++ pairsGo i (h.drop i)) ∧ Below w.heap.size w wr) (fun _ s9 _ => n - (intOf s9).toNat)
  case atStart => exact ⟨0, 0, [], Nat.zero_le _, rfl, World.ownsRow_nil _ _ _ _, Nat.zero_le _, rfl, Below.refl _ _⟩
  case round =>
    obtain ⟨i, m, acc, hi, rfl, ho3, hmi, HE, hbw⟩ := hrel
    obtain ⟨A3, c3, rfl⟩ := own_slice ho3
    by_cases hlt : i < n
    · obtain ⟨b, off, o, he, hb, ho, c0, c1, c2⟩ := (hr.below hbw).op (k := i) (by omega)
      cases he
      have HE2 := Lib.hid (HE.out.trans (congrArg (acc ++ ·) (pairsGo_step (drop_at ho))))
      have hOa := Blk.new wr 91 [.int .i64 o.tx, .int .i64 o.what, .int .i64 o.item]
      have ho3a := own_alloc ho3 (.cells #[.int .i64 o.tx, .int .i64 o.what, .int .i64 o.item] 91)
      have hbwa : Below w.heap.size w (wr.alloc (.cells #[.int .i64 o.tx, .int .i64 o.what, .int .i64 o.item] 91)) := hbw.alloc hbw.size _
      have hob : w.heap.size ≤ wr.heap.size := hbw.size
      clear ho HE ho3
      obtain ⟨tx, what, item⟩ := o
      simp only at c0 c1 c2 hOa ho3a hbwa
      obtain ⟨wo, rfl⟩ : ∃ wo : World, wo = wr := ⟨_, rfl⟩
      go_wp2
      generalize wo.heap.size = ob at *
      go_loopw [3, 6] (fun s3 s6 wx => ∃ (k m : Nat) (acc : List (Int × Int)), i + 1 ≤ k ∧ k ≤ n ∧ s6 = .int .i64 k ∧ wx.ownsRow w.heap.size 237 2 s3 m (dcells acc) ∧ m ≤ i * 40 + k ∧ Hid (pairsL h = acc ++ (pairsAt ⟨tx, what, item⟩ i k (h.drop k) ++ pairsGo (i + 1) (h.drop (i + 1)))) ∧
        Blk wx ob 91 [.int .i64 tx, .int .i64 what, .int .i64 item] ∧ Below w.heap.size w wx) (fun _ s6 _ => n - (intOf s6).toNat)
      case atStart => exact ⟨i + 1, m, acc, Nat.le_refl _, by omega, by go_num, ho3a, by omega, HE2, hOa, hbwa⟩
      case round =>
        clear HE2 hOa ho3a hbwa c0 c1 c2
        obtain ⟨k, m, acc, hk1, hk2, rfl, ho3, hmk, HE, hO, hbx⟩ := hrel
        obtain ⟨A3, c3, rfl⟩ := own_slice ho3
        by_cases hlk : k < n
        · obtain ⟨b, off, o2, he, hb, ho2, d0, d1, d2⟩ := (hr.below hbx).op (k := k) (by omega)
          cases he
          have HE2 := Lib.hid (HE.out.trans (congrArg (fun z => acc ++ (z ++ pairsGo (i + 1) (h.drop (i + 1)))) (pairsAt_step (a := ⟨tx, what, item⟩) (i := i) (k := k) (drop_at ho2))))
          clear ho2 HE
          obtain ⟨p1, p2, p3⟩ := o2
          simp only at d0 d1 d2
          obtain ⟨x0, x1, x2⟩ := ocellsP hO
          have CA := hide (at_any ⟨tx, what, item⟩ ⟨p1, p2, p3⟩ wr.drew)
          have hwz : wr.drew.heap.size = wr.heap.size := rfl
          generalize oddB ⟨tx, what, item⟩ ⟨p1, p2, p3⟩ = q at *
          go_wp2
          go_still_tail 5, (by kernel_rfl)
          change wpList _ _ _ _ _ wr.drew
          go_wp2_with fail
          refine (unhide CA).mono ?_
          rw [hwz]
          rintro e wy ⟨rfl, hby⟩
          have hbd : Below w.heap.size w wr.drew := hbx.drew
          have hod : wr.drew.ownsRow w.heap.size 237 2 (.slice A3 m c3) m (dcells acc) := ho3
          have hOd : Blk wr.drew ob 91 [.int .i64 tx, .int .i64 what, .int .i64 item] := hO
          have hby' : Below wr.drew.heap.size wr.drew wy := hby
          have hbw2 := hbd.trans (hby'.mono hbd.size)
          have ho3y := own_below hod hby' (Nat.le_refl _)
          have hOy := hOd.below hby' hOd.lt
          clear hby hby' hO ho3 hod hOd hbx hbd CA hwz d0 d1 d2 x0 x1 x2
          cases q
          · have HE3 : Hid (pairsL h = acc ++ (pairsAt ⟨tx, what, item⟩ i (k + 1) (h.drop (k + 1)) ++ pairsGo (i + 1) (h.drop (i + 1)))) := Lib.hid (by rw [HE2.out]; simp)
            clear HE2
            go_wp2
            go_roundw
            case rel => exact ⟨k + 1, m, acc, by omega, by omega, by go_num, ho3y, by omega, HE3, hOy, hbw2⟩
            case measure => simp [intOf]; omega
          · have HE3 : Hid (pairsL h = acc ++ [((i : Int), (k : Int))] ++ (pairsAt ⟨tx, what, item⟩ i (k + 1) (h.drop (k + 1)) ++ pairsGo (i + 1) (h.drop (i + 1)))) := Lib.hid (by rw [HE2.out]; simp)
            have hz := hbw2.size
            clear HE2
            go_wp2_with (at_builtin; (refine wpList_app rfl (.tmp 28) (.tmp 32) _ rfl w.heap.size slt_edge (n := m) (xs := dcells acc) (m := 1) (news := dcells [((i : Int), (k : Int))]) rfl (own_alloc ho3y _) rfl (rd_new' _ _ (dcells [((i : Int), (k : Int))]) (by simp) rfl) (oneD _) (by omega) (by simp; omega) ?_; intro v5 w5 hown5 hg5 hb5 hat5 hne5))
            rw [← dcells_append] at hown5
            have hO5 := (hOy.alloc (.cells (dcells [((i : Int), (k : Int))]).toArray 237)).other (own_alloc ho3y _) (by decide) hg5
            have hbw5 := (hbw2.alloc hz (.cells (dcells [((i : Int), (k : Int))]).toArray 237)).trans hb5
            go_roundw
            case rel => exact ⟨k + 1, m + 1, acc ++ [((i : Int), (k : Int))], by omega, by omega, by go_num, hown5, by omega, HE3, hO5, hbw5⟩
            case measure => simp [intOf]; omega
        · have HE2 : Hid (pairsL h = acc ++ pairsGo (i + 1) (h.drop (i + 1))) := Lib.hid (by
            have e : h.drop k = [] := drop_end (by rw [HL.out]; omega)
            rw [HE.out, e, pairsAt, List.nil_append])
          clear HE hO
          go_wp2
          go_roundw
          case rel => exact ⟨i + 1, m, acc, by omega, by go_num, ho3, by omega, HE2, hbx⟩
          case measure => simp [intOf]; omega
    · have HF : Hid (pairsL h = acc) := Lib.hid (by rw [HE.out, drop_end (by rw [HL.out]; omega)]; simp [pairsGo])
      go_wp2
      go_ret
      exact ⟨_, _, rfl, by rw [HF.out]; exact ho3, by omega, hbw⟩

end Go.Proofs.YtaaahfbcpgdoiaaGreatDoor
