
/-
  CONTRACTS of view.look, Last.
-/
import Derived.Test.YtkpnpkikonlmpaaGreatDoorPlay

namespace Go.Proofs.YtkpnpkikonlmpaaGreatDoor
open Go.RowKit

def lookGo (i : Int) (last : List Int) (out : List (Int × Int)) : List HOp → List (Int × Int) × List Int
  | [] => (out, last)
  | o :: t =>
    if o.what = 1 then lookGo (i + 1) last (out ++ [(i, last.getD (o.item.toNat - 1) 0)]) t
    else if o.what = 2 then lookGo (i + 1) (last.set (o.item.toNat - 1) o.tx) out t
    else lookGo (i + 1) last out t
def lookF (h : List HOp) : List (Int × Int) × List Int := lookGo 0 (List.replicate 6 0) [] h

theorem dcells_append (a b : List (Int × Int)) : dcells (a ++ b) = dcells a ++ dcells b := by simp [dcells]
theorem oneD (l : List (Int × Int)) : ∀ u ∈ dcells l, u.oneCell' = true := by
  intro u hu
  simp only [dcells, List.mem_flatMap] at hu
  obtain ⟨o, _, ho⟩ := hu
  simp at ho
  rcases ho with rfl | rfl <;> rfl

theorem slt_src : SlT Tryz.prog 80 115 2 16 := slt_of (z := .agg #[.int .i64 0, .int .i64 0]) Tryz.underlying80 (by kernel_rfl) (by kernel_rfl) (by decide) (by decide)

set_option maxRecDepth 100000 in
set_option maxHeartbeats 1000000 in
theorem look_any (A : Option Addr) (n cap : Nat) (h : List HOp) (w : World) (hr : Rd w w.heap.size 3 A n (cellsH h)) (hm : n ≤ 1000000) (hok : ∀ o ∈ h, rightB o = true) :
    Calls Tryz.prog 54 #[.slice A n cap] w fun e w' => ∃ v1 v2 m, e = .returned (.tuple #[v1, v2]) ∧ w'.ownsRow w.heap.size 115 2 v1 m (dcells (lookF h).1) ∧ w'.ownsRow w.heap.size 3 1 v2 6 (cellsI (lookF h).2) ∧ Below w.heap.size w w' := by
  have HR := Lib.hid hok
  have HL := Lib.hid hr.hlen
  clear hok
  have hmk := make6
  go_enter Tryz.func54, Tryz.ntmps54
  go_wp2
  clear hmk
  go_loopw [4, 11] (fun s4 i wr => ∃ (k m : Nat) (last : List Int) (out : List (Int × Int)), k ≤ n ∧ i = .int .i64 k ∧ last.length = 6 ∧ Blk wr w.heap.size 3 (cellsI last) ∧ wr.ownsRow (w.heap.size + 1) 115 2 s4 m (dcells out) ∧ m ≤ k ∧
      Hid (lookF h = lookGo k last out (h.drop k)) ∧ Below w.heap.size w wr)
    (fun _ i _ => n - (intOf i).toNat)
  case atStart => exact ⟨0, 0, List.replicate 6 0, [], Nat.zero_le _, rfl, rfl, Blk.new w 3 (cellsI (List.replicate 6 0)), World.ownsRow_nil _ _ _ _, Nat.zero_le _, rfl, (Below.refl _ _).alloc (Nat.le_refl _) _⟩
  case round =>
    obtain ⟨k, m, last, out, hk, rfl, hll, hB, hown, hmk, HE, hbw⟩ := hrel
    obtain ⟨A4, c4, rfl⟩ := own_slice hown
    have hBlt := hB.lt
    by_cases hlt : k < n
    · obtain ⟨b, off, o, he, hb, ho, c0, c1, c2⟩ := (hr.below hbw).op (k := k) (by omega)
      cases he
      have hro := HR.out o (List.mem_of_getElem? ho)
      obtain ⟨tx, what, item⟩ := o
      have HO : Hid (h.drop k = ⟨tx, what, item⟩ :: h.drop (k + 1)) := drop_at ho
      clear ho
      obtain ⟨h1, h2, _, _, h3, _⟩ := rightB_get hro
      simp only at h1 h2 h3
      clear hro
      have hb' : b < wr.heap.size := by omega
      by_cases hw1 : what = 1
      · subst hw1
        obtain ⟨i1, i2⟩ := h3 (by omega)
        obtain ⟨v, hv⟩ : ∃ v, last[item.toNat - 1]? = some v := ⟨_, List.getElem?_eq_getElem (by omega)⟩
        have ev : wr.cell? ⟨w.heap.size, item.toNat - 1, none⟩ = some (.int .i64 v) := hB.cellS (by rw [cellsI, List.getElem?_map, hv]; rfl)
        have HE2 : Hid (lookF h = lookGo (k + 1 : Nat) last (out ++ [((k : Int), v)]) (h.drop (k + 1))) := Lib.hid (by rw [HE.out, HO.out]; simp [lookGo, hv])
        clear hv
        have i3 : item.toNat - 1 < 6 := by omega
        go_wp2_with (at_builtin; (refine wpList_app rfl (.tmp 20) (.tmp 29) _ rfl (w.heap.size + 1) slt_src (n := m) (xs := dcells out) (m := 1) (news := [.int .i64 (k : Int), .int .i64 v]) rfl (own_alloc (own_alloc hown _) _) rfl (rd_new' _ _ [.int .i64 (k : Int), .int .i64 v] (by simp) rfl) (oneD [((k : Int), v)]) (by omega) (by simp; omega) ?_; intro v5 w5 hown5 hg5 hb5 hat5 hne5; have hz5 := hb5.size; have hB5 := ((hB.alloc _).alloc _).below hb5 (by omega); have hw5 := ((hbw.alloc (by omega) _).alloc (by simp; omega) _).trans (hb5.mono (by omega)); clear hb5 hg5 hat5 hne5))
        go_roundw
        case rel => exact ⟨k + 1, m + 1, last, out ++ [((k : Int), v)], by omega, by go_num, hll, hB5, by rw [dcells_append]; exact hown5, by omega, HE2, hw5⟩
        case measure => simp [intOf]; omega
      have hne1 : (what == 1) = false := by simpa using hw1
      by_cases hw2 : what = 2
      · subst hw2
        clear hne1 hw1
        obtain ⟨i1, i2⟩ := h3 (by omega)
        obtain ⟨v, hv⟩ : ∃ v, last[item.toNat - 1]? = some v := ⟨_, List.getElem?_eq_getElem (by omega)⟩
        have ev : wr.cell? ⟨w.heap.size, item.toNat - 1, none⟩ = some (.int .i64 v) := hB.cellS (by rw [cellsI, List.getElem?_map, hv]; rfl)
        have fv : wr.frozen? ⟨w.heap.size, item.toNat - 1, none⟩ = false := hB.frozen _
        have HE2 : Hid (lookF h = lookGo (k + 1 : Nat) (last.set (item.toNat - 1) tx) out (h.drop (k + 1))) := Lib.hid (by rw [HE.out, HO.out]; simp [lookGo])
        clear hv
        have i3 : item.toNat - 1 < 6 := by omega
        go_wp2
        go_roundw
        case rel => exact ⟨k + 1, m, last.set (item.toNat - 1) tx, out, by omega, by go_num, by simp [hll], by rw [cellsI, List.map_set]; exact (hB.put _ _).alloc _, own_alloc (own_far hown (p := ⟨w.heap.size, item.toNat - 1, none⟩) (Nat.lt_succ_self _) _) _, by omega, HE2, (hbw.setCell (p := ⟨w.heap.size, item.toNat - 1, none⟩) (Nat.le_refl _) _).alloc (by simp; omega) _⟩
        case measure => simp [intOf]; omega
      · have hne2 : (what == 2) = false := by simpa using hw2
        have HE2 : Hid (lookF h = lookGo (k + 1 : Nat) last out (h.drop (k + 1))) := Lib.hid (by rw [HE.out, HO.out]; simp [lookGo, hw1, hw2])
        go_wp2
        go_roundw
        case rel => exact ⟨k + 1, m, last, out, by omega, by go_num, hll, hB.alloc _, own_alloc hown _, by omega, HE2, hbw.alloc (by omega) _⟩
        case measure => simp [intOf]; omega
    · have HF : Hid (lookF h = (out, last)) := Lib.hid (by rw [HE.out, drop_end (by rw [HL.out]; omega)]; rfl)
      have HO1 : Hid (wr.ownsRow w.heap.size 3 1 (.slice (some ⟨w.heap.size, 0, none⟩) 6 6) 6 (cellsI last)) := Lib.hid (own_blk hB (Nat.le_refl _) (by decide) (by simp [cellsI, hll]))
      go_wp2
      go_ret2
      exact ⟨_, _, m, rfl, by rw [HF.out]; exact own_mono hown (by omega), by rw [HF.out]; exact HO1.out, hbw⟩
end Go.Proofs.YtkpnpkikonlmpaaGreatDoor
