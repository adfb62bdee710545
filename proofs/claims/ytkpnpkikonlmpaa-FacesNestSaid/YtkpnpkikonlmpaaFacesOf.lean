
/-
  CONTRACTS of slices.Index over ops, faces.recoverable.
-/
import Derived.Test.YtkpnpkikonlmpaaFrom

namespace Go.Proofs.Ytkpnpkikonlmpaa
open Go.RowKit

set_option maxHeartbeats 1000000 in
theorem index_op (A : Option Addr) (n cap : Nat) (h : List HOp) (v : HOp) (w : World) (hr : Rd w w.heap.size 3 A n (cellsH h)) (hm : n ≤ 6000000000000) :
    Calls Try.prog 58 #[.slice A n cap, v.val] w fun e w' => e = .returned (.int .i64 (idxGo (fun o => decide (o = v)) 0 h)) ∧ Below w.heap.size w w' := by
  have HL := Lib.hid hr.hlen
  obtain ⟨v1, v2, v3⟩ := v
  generalize hF : idxGo (fun o => decide (o = HOp.mk v1 v2 v3)) 0 h = F
  have HF0 := Lib.hid hF
  clear hF
  unfold HOp.val
  go_enter Try.func58, Try.ntmps58
  go_wp2
  go_loopw [8] (fun i wr => ∃ k : Nat, k ≤ n ∧ i = .int .i64 k ∧ Hid (F = idxGo (fun o => decide (o = HOp.mk v1 v2 v3)) k (h.drop k)) ∧ Blk wr w.heap.size 24 [.int .i64 v1, .int .i64 v2, .int .i64 v3] ∧ Below w.heap.size w wr) (fun i _ => n - (intOf i).toNat)
  case atStart => exact ⟨0, Nat.zero_le _, rfl, Lib.hid HF0.out.symm, Blk.new w _ _, (Below.refl _ _).alloc (Nat.le_refl _) _⟩
  case round =>
    obtain ⟨k, hk, rfl, HE, hB, hbw⟩ := hrel
    have b0 := hB.cellS (i := 0) (v := .int .i64 v1) rfl
    have b1 := hB.cellS (i := 1) (v := .int .i64 v2) rfl
    have b2 := hB.cellS (i := 2) (v := .int .i64 v3) rfl
    by_cases hlt : k < n
    · obtain ⟨b, off, o, he, hb, ho, c0, c1, c2⟩ := (hr.below hbw).op (k := k) (by omega)
      cases he
      have HO := Lib.hid (drop_at ho)
      clear ho
      obtain ⟨y1, y2, y3⟩ := o
      simp only at c0 c1 c2
      by_cases hxy : HOp.mk y1 y2 y3 = HOp.mk v1 v2 v3
      · have HE2 : Hid (F = k) := Lib.hid (by rw [HE.out, HO.out]; simp [idxGo, hxy])
        cases hxy
        go_wp2
        go_quiet (fail)
        go_wp2
        go_ret
        exact ⟨ret_int HE2.out.symm, below_drewN hbw _⟩
      · have HE2 : Hid (F = idxGo (fun o => decide (o = HOp.mk v1 v2 v3)) (k + 1 : Nat) (h.drop (k + 1))) := Lib.hid (by rw [HE.out, HO.out]; simp [idxGo, hxy])
        have hxy2 : ¬ (v1 = y1 ∧ v2 = y2 ∧ v3 = y3) := fun h => hxy (by rw [h.1, h.2.1, h.2.2])
        clear hxy
        by_cases g1 : v1 = y1 <;> by_cases g2 : v2 = y2 <;> by_cases g3 : v3 = y3
        · exact absurd ⟨g1, g2, g3⟩ hxy2
        all_goals
          try subst g1
          try subst g2
          try subst g3
          clear hxy2
          go_wp2
          go_quiet (fail)
          go_wp2
          go_roundw
          case rel => exact ⟨k + 1, by omega, by go_num, HE2, hB, below_drewN hbw _⟩
          case measure => simp [intOf]; omega
    · have HE2 : Hid (F = -1) := Lib.hid (by rw [HE.out, drop_end (by rw [HL.out]; omega)]; rfl)
      go_wp2
      go_ret
      exact ⟨ret_int HE2.out.symm, hbw⟩

/-! ### Scans. -/
def scanB (p : List HOp → HOp → Bool) (pre : List HOp) : List HOp → Bool
  | [] => true
  | o :: t => p pre o && scanB p (pre ++ [o]) t
theorem scanB_append (p : List HOp → HOp → Bool) (pre a b : List HOp) : scanB p pre (a ++ b) = (scanB p pre a && scanB p (pre ++ a) b) := by
  induction a generalizing pre with
  | nil => simp [scanB]
  | cons o t ih => simp [scanB, ih, Bool.and_assoc]
theorem scanB_snoc (p : List HOp → HOp → Bool) (a : List HOp) (o : HOp) : scanB p [] (a ++ [o]) = (scanB p [] a && p a o) := by simp [scanB_append, scanB]
theorem take_snoc {α : Type} {h : List α} {k : Nat} {o : α} (ho : h[k]? = some o) : h.take (k + 1) = h.take k ++ [o] := by rw [List.take_add_one, ho]; rfl

def recT (h : List HOp) (pre : List HOp) (o : HOp) : Bool :=
  !(decide (o.what = 1)) || decide (fromB pre o = 0) || decide (fromB pre o = o.tx) ||
    !(decide (0 ≤ idxGo (fun x => decide (x = HOp.mk o.tx 3 0)) 0 h) && (decide (idxGo (fun x => decide (x = HOp.mk (fromB pre o) 3 0)) 0 h < 0) || decide (idxGo (fun x => decide (x = HOp.mk o.tx 3 0)) 0 h < idxGo (fun x => decide (x = HOp.mk (fromB pre o) 3 0)) 0 h)))
def recF (h : List HOp) : Bool := scanB (recT h) [] h

set_option maxRecDepth 100000 in
set_option maxHeartbeats 2000000 in
theorem recoverable_any (A : Option Addr) (n cap : Nat) (h : List HOp) (w : World) (hr : Rd w w.heap.size 3 A n (cellsH h)) (hm : n ≤ 1000000) (hcap : n ≤ cap) (ht : ∀ o ∈ h, 1 ≤ o.tx ∧ o.tx ≤ 6) :
    Calls Try.prog 29 #[.slice A n cap] w fun e w' => e = .returned (.bool (recF h)) ∧ Below w.heap.size w w' := by
  have HL := Lib.hid hr.hlen
  have HT := Lib.hid ht
  clear ht
  go_enter Try.func29, Try.ntmps29
  go_wp2
  go_loopw [10] (fun i wr => ∃ k : Nat, k ≤ n ∧ i = .int .i64 k ∧ Hid (recF h = scanB (recT h) (h.take k) (h.drop k)) ∧ Below w.heap.size w wr) (fun i _ => n - (intOf i).toNat)
  case atStart => exact ⟨0, Nat.zero_le _, rfl, rfl, Below.refl _ _⟩
  case round =>
    obtain ⟨k, hk, rfl, HE, hbw⟩ := hrel
    by_cases hlt : k < n
    · obtain ⟨b, off, o, he, hb, ho, c0, c1, c2⟩ := (hr.below hbw).op (k := k) (by omega)
      cases he
      have HO := Lib.hid (drop_at ho)
      have HS := Lib.hid (take_snoc ho)
      have C1 := hide (fun w1 (hb : Below w.heap.size w w1) => from_any (some ⟨b, off, none⟩) n cap h k o w1 ((hr.below hb).more hb.size) hm hcap ho HT.out)
      have C2 := hide (fun w1 v (hb : Below w.heap.size w w1) => index_op (some ⟨b, off, none⟩) n cap h v w1 ((hr.below hb).more hb.size) (by omega))
      clear ho
      have HN : recT h (h.take k) o = true → Hid (recF h = scanB (recT h) (h.take (k + 1)) (h.drop (k + 1))) := fun hx => Lib.hid (by rw [HE.out, HO.out, HS.out]; simp [scanB, hx])
      have HX : recT h (h.take k) o = false → Hid (recF h = false) := fun hx => Lib.hid (by rw [HE.out, HO.out]; simp [scanB, hx])
      obtain ⟨tx, what, item⟩ := o
      simp only at c0 c1 c2
      by_cases h1 : what = 1
      · subst h1
        have hT : recT h (h.take k) ⟨tx, 1, item⟩ = (decide (fromB (h.take k) ⟨tx, 1, item⟩ = 0) || decide (fromB (h.take k) ⟨tx, 1, item⟩ = tx) ||
          !(decide (0 ≤ idxGo (fun x => decide (x = HOp.mk tx 3 0)) 0 h) && (decide (idxGo (fun x => decide (x = HOp.mk (fromB (h.take k) ⟨tx, 1, item⟩) 3 0)) 0 h < 0) || decide (idxGo (fun x => decide (x = HOp.mk tx 3 0)) 0 h < idxGo (fun x => decide (x = HOp.mk (fromB (h.take k) ⟨tx, 1, item⟩) 3 0)) 0 h)))) := by simp [recT]
        rw [hT] at HN HX
        clear hT
        generalize fromB (h.take k) ⟨tx, 1, item⟩ = xv at *
        generalize hi1 : idxGo (fun x => decide (x = HOp.mk tx 3 0)) 0 h = i1 at *
        generalize hi2 : idxGo (fun x => decide (x = HOp.mk xv 3 0)) 0 h = i2 at *
        have HI1 := Lib.hid hi1
        have HI2 := Lib.hid hi2
        clear hi1 hi2
        have hbA := (hbw.alloc hbw.size (.cells #[.int .i64 tx, .int .i64 1, .int .i64 item] 24))
        have HA := hide hbA
        clear hbA
        go_wp2_with fail
        refine (unhide C1 _ (unhide HA)).mono ?_
        rintro e w1 ⟨rfl, hb1⟩
        have hbw1 := (unhide HA).trans (hb1.mono (unhide HA).size)
        have hz1 := hb1.size
        simp at hz1
        have d0 := (hb1.cell (p := ⟨wr.heap.size, 0, none⟩) (by simp)).trans (by simp [World.cell?_alloc_new] : _ = some (.int .i64 tx))
        clear HA hb1
        by_cases g1 : xv = 0
        · subst g1
          have HF := HN (by simp)
          clear HN HX
          go_wp2
          go_roundw
          case rel => exact ⟨k + 1, by omega, by go_num, HF, hbw1⟩
          case measure => simp [intOf]; omega
        have g1' : (xv == 0) = false := by simpa using g1
        by_cases g2 : xv = tx
        · subst g2
          have HF := HN (by simp)
          clear HN HX
          go_wp2
          go_roundw
          case rel => exact ⟨k + 1, by omega, by go_num, HF, hbw1⟩
          case measure => simp [intOf]; omega
        have g2' : (xv == tx) = false := by simpa using g2
        go_wp2_with fail
        refine Calls.mono (unhide C2 _ ⟨tx, 3, 0⟩ hbw1) ?_
        rintro e w2 ⟨rfl, hb2⟩
        have hbw2 := hbw1.trans (hb2.mono hbw1.size)
        rw [HI1.out]
        go_wp2_with fail
        refine Calls.mono (unhide C2 _ ⟨xv, 3, 0⟩ hbw2) ?_
        rintro e w3 ⟨rfl, hb3⟩
        have hbw3 := hbw2.trans (hb3.mono hbw2.size)
        rw [HI2.out]
        clear hb2 hb3 d0
        by_cases g3 : 0 ≤ i1
        · by_cases g4 : i2 < 0
          · have HF := HX (by simp [g1, g2, g3, g4])
            clear HN HX
            go_wp2
            go_ret
            exact ⟨ret_bool HF.out.symm, hbw3⟩
          · by_cases g5 : i1 < i2
            · have HF := HX (by simp [g1, g2, g3, g5])
              clear HN HX
              go_wp2
              go_ret
              exact ⟨ret_bool HF.out.symm, hbw3⟩
            · have HF := HN (by simp [g4, g5])
              clear HN HX
              go_wp2
              go_roundw
              case rel => exact ⟨k + 1, by omega, by go_num, HF, hbw3⟩
              case measure => simp [intOf]; omega
        · have HF := HN (by simp [g3])
          clear HN HX
          go_wp2
          go_roundw
          case rel => exact ⟨k + 1, by omega, by go_num, HF, hbw3⟩
          case measure => simp [intOf]; omega
      · have HF := HN (by simp [recT, h1])
        clear HN HX
        have h1' : (what != 1) = true := by simpa using h1
        go_wp2
        go_roundw
        case rel => exact ⟨k + 1, by omega, by go_num, HF, hbw.alloc hbw.size _⟩
        case measure => simp [intOf]; omega
    · have HF : Hid (recF h = true) := Lib.hid (by rw [HE.out, drop_end (by rw [HL.out]; omega)]; rfl)
      go_wp2
      go_ret
      exact ⟨ret_bool HF.out.symm, hbw⟩
end Go.Proofs.Ytkpnpkikonlmpaa
