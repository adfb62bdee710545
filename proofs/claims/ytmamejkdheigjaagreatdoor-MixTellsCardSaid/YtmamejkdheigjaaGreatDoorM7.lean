
/-
  CONTRACT of lanesame.Sources: whether two lists of sources are the same. A list of pairs read.
  CONTRACT of odds.At.
  A slice of edges that the call owns.
  CONTRACTS of odds.pairs, odds.Pairs.
-/
import Derived.Test.YtmamejkdheigjaaGreatDoorSame
import Derived.Test.YtmamejkdheigjaaGreatDoorView
import Derived.StillTailTactics

namespace Go.Proofs.YtmamejkdheigjaaGreatDoor
open Go.RowKit

theorem dcells_length (l : List (Int × Int)) : (dcells l).length = l.length * 2 := by
  induction l with
  | nil => rfl
  | cons d t ih =>
    have e : dcells (d :: t) = [.int .i64 d.1, .int .i64 d.2] ++ dcells t := rfl
    rw [e, List.length_append, ih]; simp; omega
theorem Rd.dlen {w : World} {B n : Nat} {A : Option Addr} {l : List (Int × Int)} (h : Rd w B 2 A n (dcells l)) : l.length = n := by
  have hl := h.1
  rw [dcells_length] at hl
  omega
theorem Rd.pr {w : World} {B n : Nat} {A : Option Addr} {l : List (Int × Int)} (h : Rd w B 2 A n (dcells l)) {k : Nat} (hk : k < n) :
    ∃ b off d, A = some ⟨b, off, none⟩ ∧ b < B ∧ l[k]? = some d ∧ w.cell? ⟨b, off + k * 2, none⟩ = some (.int .i64 d.1) ∧ w.cell? ⟨b, off + k * 2 + 1, none⟩ = some (.int .i64 d.2) := by
  obtain ⟨b, off, e, hb, hc⟩ := h.2 (by omega)
  have hl := h.dlen
  have ho : l[k]? = some (l[k]'(by omega)) := List.getElem?_eq_getElem (by omega)
  obtain ⟨h0, h1⟩ := dcells_at ho
  exact ⟨b, off, _, e, hb, ho, hc _ _ h0, hc _ _ h1⟩

end Go.Proofs.YtmamejkdheigjaaGreatDoor


namespace Go.Proofs.YtmamejkdheigjaaGreatDoor
open Go.RowKit

def oddB (a b : HOp) : Bool := decide (a.tx ≠ b.tx ∧ a.item = b.item ∧ a.item ≠ 0 ∧ (a.what = 2 ∨ b.what = 2))

set_option maxHeartbeats 4000000 in
theorem at_any (a b : HOp) (w : World) : Calls Tryz.prog 67 #[a.val, b.val] w fun e w' => e = .returned (.bool (oddB a b)) ∧ Below w.heap.size w w' := by
  obtain ⟨a1, a2, a3⟩ := a
  obtain ⟨b1, b2, b3⟩ := b
  unfold HOp.val
  have hB : ∀ W : World, True := fun _ => trivial
  clear hB
  by_cases h1 : a1 = b1
  · have HF : Hid (oddB ⟨a1, a2, a3⟩ ⟨b1, b2, b3⟩ = false) := Lib.hid (by simp [oddB, h1])
    have h1b : (a1 != b1) = false := by simpa using h1
    go_enter Tryz.func67, Tryz.ntmps67
    go_wp2
    go_ret
    exact ⟨ret_bool HF.out.symm, ((Below.refl _ _).alloc (Nat.le_refl _) _).alloc (by simp) _⟩
  have h1b : (a1 != b1) = true := by simpa using h1
  by_cases h2 : a3 = b3
  · subst h2
    by_cases h3 : a3 = 0
    · have HF : Hid (oddB ⟨a1, a2, a3⟩ ⟨b1, b2, a3⟩ = false) := Lib.hid (by simp [oddB, h3])
      have h3b : (a3 != 0) = false := by simpa using h3
      go_enter Tryz.func67, Tryz.ntmps67
      go_wp2
      go_ret
      exact ⟨ret_bool HF.out.symm, ((Below.refl _ _).alloc (Nat.le_refl _) _).alloc (by simp) _⟩
    have h3b : (a3 != 0) = true := by simpa using h3
    by_cases h4 : a2 = 2
    · have HF : Hid (oddB ⟨a1, a2, a3⟩ ⟨b1, b2, a3⟩ = true) := Lib.hid (by simp [oddB, h1, h3, h4])
      have h4b : (a2 == 2) = true := by simpa using h4
      go_enter Tryz.func67, Tryz.ntmps67
      go_wp2
      go_ret
      exact ⟨ret_bool HF.out.symm, ((Below.refl _ _).alloc (Nat.le_refl _) _).alloc (by simp) _⟩
    · have HF : Hid (oddB ⟨a1, a2, a3⟩ ⟨b1, b2, a3⟩ = (b2 == 2)) := Lib.hid (by by_cases h5 : b2 = 2 <;> simp [oddB, h1, h3, h4, h5])
      have h4b : (a2 == 2) = false := by simpa using h4
      go_enter Tryz.func67, Tryz.ntmps67
      go_wp2
      go_ret
      exact ⟨ret_bool HF.out.symm, ((Below.refl _ _).alloc (Nat.le_refl _) _).alloc (by simp) _⟩
  · have HF : Hid (oddB ⟨a1, a2, a3⟩ ⟨b1, b2, b3⟩ = false) := Lib.hid (by simp [oddB, h2])
    have h2b : (a3 == b3) = false := by simpa using h2
    go_enter Tryz.func67, Tryz.ntmps67
    go_wp2
    go_ret
    exact ⟨ret_bool HF.out.symm, ((Below.refl _ _).alloc (Nat.le_refl _) _).alloc (by simp) _⟩
theorem ocellsP {w : World} {g : Nat} {t : TypeId} {a b c : Int} (h : Blk w g t [.int .i64 a, .int .i64 b, .int .i64 c]) :
    w.cell? ⟨g, 0, none⟩ = some (.int .i64 a) ∧ w.cell? ⟨g, 1, none⟩ = some (.int .i64 b) ∧ w.cell? ⟨g, 2, none⟩ = some (.int .i64 c) := ⟨h.cellS rfl, h.cellS rfl, h.cellS rfl⟩
end Go.Proofs.YtmamejkdheigjaaGreatDoor


namespace Go.Proofs.YtmamejkdheigjaaGreatDoor
open Go.RowKit
theorem slt_edge : SlT Tryz.prog 46 58 2 16 := slt_of (z := .agg #[.int .i64 0, .int .i64 0]) Tryz.underlying46 (by kernel_rfl) (by kernel_rfl) (by decide) (by decide)
end Go.Proofs.YtmamejkdheigjaaGreatDoor


namespace Go.Proofs.YtmamejkdheigjaaGreatDoor
open Go.RowKit

def pairsAt (a : HOp) (i k : Nat) : List HOp → List (Int × Int)
  | [] => []
  | b :: t => (if oddB a b then [((i : Int), (k : Int))] else []) ++ pairsAt a i (k + 1) t
def pairsGo (i : Nat) : List HOp → List (Int × Int)
  | [] => []
  | a :: t => pairsAt a i (i + 1) t ++ pairsGo (i + 1) t
def pairsL (h : List HOp) : List (Int × Int) := pairsGo 0 h
theorem pairsAt_step {a b : HOp} {i k : Nat} {l t : List HOp} (e : l = b :: t) : pairsAt a i k l = (if oddB a b then [((i : Int), (k : Int))] else []) ++ pairsAt a i (k + 1) t := by rw [e, pairsAt]
theorem pairsGo_step {a : HOp} {i : Nat} {l t : List HOp} (e : l = a :: t) : pairsGo i l = pairsAt a i (i + 1) t ++ pairsGo (i + 1) t := by rw [e, pairsGo]

set_option maxRecDepth 100000 in
set_option maxHeartbeats 4000000 in
theorem pairs_any (A : Option Addr) (n cap : Nat) (h : List HOp) (w : World) (hr : Rd w w.heap.size 3 A n (cellsH h)) (hm : n ≤ 40) :
    Calls Tryz.prog 55 #[.slice A n cap] w fun e w' => ∃ v m, e = .returned v ∧ w'.ownsRow w.heap.size 58 2 v m (dcells (pairsL h)) ∧ m ≤ 1600 ∧ Below w.heap.size w w' := by
  have HL := Lib.hid hr.hlen
  go_enter Tryz.func55, Tryz.ntmps55
  go_wp2
  go_loopw [3, 9] (fun s3 s9 wr => ∃ (i m : Nat) (acc : List (Int × Int)), i ≤ n ∧ s9 = .int .i64 i ∧ wr.ownsRow w.heap.size 58 2 s3 m (dcells acc) ∧ m ≤ i * 40 ∧ Hid (pairsL h = acc ++ pairsGo i (h.drop i)) ∧ Below w.heap.size w wr) (fun _ s9 _ => n - (intOf s9).toNat)
  case atStart => exact ⟨0, 0, [], Nat.zero_le _, rfl, World.ownsRow_nil _ _ _ _, Nat.zero_le _, rfl, Below.refl _ _⟩
  case round =>
    obtain ⟨i, m, acc, hi, rfl, ho3, hmi, HE, hbw⟩ := hrel
    obtain ⟨A3, c3, rfl⟩ := own_slice ho3
    by_cases hlt : i < n
    · obtain ⟨b, off, o, he, hb, ho, c0, c1, c2⟩ := (hr.below hbw).op (k := i) (by omega)
      cases he
      have HE2 := Lib.hid (HE.out.trans (congrArg (acc ++ ·) (pairsGo_step (drop_at ho))))
      have hOa := Blk.new wr 54 [.int .i64 o.tx, .int .i64 o.what, .int .i64 o.item]
      have ho3a := own_alloc ho3 (.cells #[.int .i64 o.tx, .int .i64 o.what, .int .i64 o.item] 54)
      have hbwa : Below w.heap.size w (wr.alloc (.cells #[.int .i64 o.tx, .int .i64 o.what, .int .i64 o.item] 54)) := hbw.alloc hbw.size _
      have hob : w.heap.size ≤ wr.heap.size := hbw.size
      clear ho HE ho3
      obtain ⟨tx, what, item⟩ := o
      simp only at c0 c1 c2 hOa ho3a hbwa
      obtain ⟨wo, rfl⟩ : ∃ wo : World, wo = wr := ⟨_, rfl⟩
      go_wp2
      generalize wo.heap.size = ob at *
      go_loopw [3, 6] (fun s3 s6 wx => ∃ (k m : Nat) (acc : List (Int × Int)), i + 1 ≤ k ∧ k ≤ n ∧ s6 = .int .i64 k ∧ wx.ownsRow w.heap.size 58 2 s3 m (dcells acc) ∧ m ≤ i * 40 + k ∧ Hid (pairsL h = acc ++ (pairsAt ⟨tx, what, item⟩ i k (h.drop k) ++ pairsGo (i + 1) (h.drop (i + 1)))) ∧
        Blk wx ob 54 [.int .i64 tx, .int .i64 what, .int .i64 item] ∧ Below w.heap.size w wx) (fun _ s6 _ => n - (intOf s6).toNat)
      case atStart => exact ⟨i + 1, m, acc, Nat.le_refl _, by omega, by go_num, ho3a, by omega, HE2, hOa, hbwa⟩
      case round =>
        clear HE2 hOa ho3a hbwa c0 c1 c2
        obtain ⟨k, m, acc, hk1, hk2, rfl, ho3, hmk, HE, hO, hbx⟩ := hrel
        obtain ⟨A3, c3, rfl⟩ := own_slice ho3
        by_cases hlk : k < n
        · obtain ⟨b, off, o2, he, hb, ho2, d0, d1, d2⟩ := (hr.below hbx).op (k := k) (by omega)
          cases he
          have HE2 := Lib.hid (HE.out.trans (congrArg (fun z => acc ++ (z ++ pairsGo (i + 1) (h.drop (i + 1)))) (pairsAt_step (a := ⟨tx, what, item⟩) (i := i) (k := k) (drop_at ho2))))
          clear ho2 HE
          obtain ⟨p1, p2, p3⟩ := o2
          simp only at d0 d1 d2
          obtain ⟨x0, x1, x2⟩ := ocellsP hO
          have CA := hide (at_any ⟨tx, what, item⟩ ⟨p1, p2, p3⟩ wr.drew)
          have hwz : wr.drew.heap.size = wr.heap.size := rfl
          generalize oddB ⟨tx, what, item⟩ ⟨p1, p2, p3⟩ = q at *
          go_wp2
          go_still_tail 5, (by kernel_rfl)
          change wpList _ _ _ _ _ wr.drew
          go_wp2_with fail
          refine (unhide CA).mono ?_
          rw [hwz]
          rintro e wy ⟨rfl, hby⟩
          have hbd : Below w.heap.size w wr.drew := hbx.drew
          have hod : wr.drew.ownsRow w.heap.size 58 2 (.slice A3 m c3) m (dcells acc) := ho3
          have hOd : Blk wr.drew ob 54 [.int .i64 tx, .int .i64 what, .int .i64 item] := hO
          have hby' : Below wr.drew.heap.size wr.drew wy := hby
          have hbw2 := hbd.trans (hby'.mono hbd.size)
          have ho3y := own_below hod hby' (Nat.le_refl _)
          have hOy := hOd.below hby' hOd.lt
          clear hby hby' hO ho3 hod hOd hbx hbd CA hwz d0 d1 d2 x0 x1 x2
          cases q
          · have HE3 : Hid (pairsL h = acc ++ (pairsAt ⟨tx, what, item⟩ i (k + 1) (h.drop (k + 1)) ++ pairsGo (i + 1) (h.drop (i + 1)))) := Lib.hid (by rw [HE2.out]; simp)
            clear HE2
            go_wp2
            go_roundw
            case rel => exact ⟨k + 1, m, acc, by omega, by omega, by go_num, ho3y, by omega, HE3, hOy, hbw2⟩
            case measure => simp [intOf]; omega
          · have HE3 : Hid (pairsL h = acc ++ [((i : Int), (k : Int))] ++ (pairsAt ⟨tx, what, item⟩ i (k + 1) (h.drop (k + 1)) ++ pairsGo (i + 1) (h.drop (i + 1)))) := Lib.hid (by rw [HE2.out]; simp)
            have hz := hbw2.size
            clear HE2
            go_wp2_with (at_builtin; (refine wpList_app rfl (.tmp 28) (.tmp 32) _ rfl w.heap.size slt_edge (n := m) (xs := dcells acc) (m := 1) (news := dcells [((i : Int), (k : Int))]) rfl (own_alloc ho3y _) rfl (rd_new' _ _ (dcells [((i : Int), (k : Int))]) (by simp) rfl) (oneD _) (by omega) (by simp; omega) ?_; intro v5 w5 hown5 hg5 hb5 hat5 hne5))
            rw [← dcells_append] at hown5
            have hO5 := (hOy.alloc (.cells (dcells [((i : Int), (k : Int))]).toArray 58)).other (own_alloc ho3y _) (by decide) hg5
            have hbw5 := (hbw2.alloc hz (.cells (dcells [((i : Int), (k : Int))]).toArray 58)).trans hb5
            go_roundw
            case rel => exact ⟨k + 1, m + 1, acc ++ [((i : Int), (k : Int))], by omega, by omega, by go_num, hown5, by omega, HE3, hO5, hbw5⟩
            case measure => simp [intOf]; omega
        · have HE2 : Hid (pairsL h = acc ++ pairsGo (i + 1) (h.drop (i + 1))) := Lib.hid (by
            have e : h.drop k = [] := drop_end (by rw [HL.out]; omega)
            rw [HE.out, e, pairsAt, List.nil_append])
          clear HE hO
          go_wp2
          go_roundw
          case rel => exact ⟨i + 1, m, acc, by omega, by go_num, ho3, by omega, HE2, hbx⟩
          case measure => simp [intOf]; omega
    · have HF : Hid (pairsL h = acc) := Lib.hid (by rw [HE.out, drop_end (by rw [HL.out]; omega)]; simp [pairsGo])
      go_wp2
      go_ret
      exact ⟨_, _, rfl, by rw [HF.out]; exact ho3, by omega, hbw⟩

end Go.Proofs.YtmamejkdheigjaaGreatDoor
