
/-
  CONTRACT of odds.Swap: the history with two ops that changed places, or the fault.
  CONTRACT of slices.Compact at edges, on a row that the call owns.
-/
import Derived.Test.YtaaahfbcpgdoiaaGreatDoorQ7
import Derived.Test.YtaaahfbcpgdoiaaGreatDoorQ1
import Derived.StillTailTactics
import Derived.BigRegion
import Derived.RegionTactic
import Derived.Deep.RegionHeld3
import Derived.IntWalk
import Derived.Test.YtaaahfbcpgdoiaaGreatDoorQ6

namespace Go.Proofs.YtaaahfbcpgdoiaaGreatDoor
open Go.RowKit

def swapL (h : List HOp) (i : Nat) : List HOp := match h[i]?, h[i + 1]? with
  | some a, some b => (h.set i b).set (i + 1) a
  | _, _ => h

theorem own_frozen {w : World} {base : Nat} {e : TypeId} {size g n c : Nat} {xs : List Value} (h : w.ownsRow base e size (.slice (some ⟨g, 0, none⟩) n c) n xs) (j : Nat) : w.frozen? ⟨g, j, none⟩ = false := by
  obtain ⟨_, ⟨he, _⟩ | ⟨g', cap, cur, he, _, hg, _⟩⟩ := h
  · cases he
  · injection he with e1; injection e1 with e1; injection e1 with e1; subst e1; simp [World.frozen?, hg]
theorem own_addr {w : World} {base : Nat} {e : TypeId} {size n c : Nat} {A : Option Addr} {xs : List Value} (h : w.ownsRow base e size (.slice A n c) n xs) (hn : 0 < n) : ∃ g, A = some ⟨g, 0, none⟩ ∧ base ≤ g ∧ g < w.heap.size := by
  obtain ⟨_, ⟨he, h0⟩ | ⟨g', cap, cur, he, hb, hg, _⟩⟩ := h
  · omega
  · injection he with e1; exact ⟨g', e1, hb, (Array.getElem?_eq_some_iff.1 hg).1⟩

end Go.Proofs.YtaaahfbcpgdoiaaGreatDoor


namespace Go.Proofs.YtaaahfbcpgdoiaaGreatDoor
open Go.RowKit

theorem tkSnoc {α : Type} {l : List α} {k : Nat} {x : α} (h : l[k]? = some x) : l.take (k + 1) = l.take k ++ [x] := by rw [List.take_add_one, h]; rfl
theorem compGo_snocG {α : Type} [DecidableEq α] (x : α) : ∀ (l : List α) (p : α), compGo p (l ++ [x]) = if x = l.getLastD p then compGo p l else compGo p l ++ [x]
  | [], p => by simp [compGo]
  | y :: t, p => by
    rw [List.cons_append, compGo, compGo, compGo_snocG x t y, List.getLastD_cons]
    by_cases h1 : y = p
    · rw [if_pos h1, if_pos h1]
    · rw [if_neg h1, if_neg h1]
      by_cases h2 : x = t.getLastD y
      · rw [if_pos h2, if_pos h2]
      · rw [if_neg h2, if_neg h2]; rfl
theorem compL_step {α : Type} [DecidableEq α] {l : List α} {q : Nat} {y x : α} (hy : l[q]? = some y) (hx : l[q + 1]? = some x) :
    compL (l.take (q + 2)) = if x = y then compL (l.take (q + 1)) else compL (l.take (q + 1)) ++ [x] := by
  cases l with
  | nil => simp at hx
  | cons a t =>
    rw [List.getElem?_cons_succ] at hx
    rw [List.take_succ_cons, List.take_succ_cons, compL, compL, tkSnoc hx, compGo_snocG]
    have hl : (t.take q).getLastD a = y := by
      cases q with
      | zero => simpa using hy
      | succ r =>
        rw [List.getElem?_cons_succ] at hy
        rw [tkSnoc hy]
        simp
    rw [hl]
    split <;> simp
theorem compL_one {α : Type} [DecidableEq α] (l : List α) (h : l.length < 2) : compL l = l := by
  match l, h with
  | [], _ => rfl
  | [x], _ => rfl
theorem own_set2 {w : World} {base : Nat} {e : TypeId} {g n c : Nat} {l : List (Int × Int)} (hown : w.ownsRow base e 2 (.slice (some ⟨g, 0, none⟩) n c) n (dcells l)) (i : Nat) (d : Int × Int) :
    ((w.setCell ⟨g, i * 2, none⟩ (.int .i64 d.1)).setCell ⟨g, i * 2 + 1, none⟩ (.int .i64 d.2)).ownsRow base e 2 (.slice (some ⟨g, 0, none⟩) n c) n (dcells (l.set i d)) := by
  rw [← dcells_set]
  exact ((hown.stored (i * 2) _).1.stored (i * 2 + 1) _).1
theorem dcells_take (l : List (Int × Int)) (i : Nat) : (dcells l).take (i * 2) = dcells (l.take i) := by
  induction l generalizing i with
  | nil => simp [dcells]
  | cons p t ih =>
    cases i with
    | zero => simp [dcells]
    | succ i =>
      have e : dcells (p :: t) = [.int .i64 p.1, .int .i64 p.2] ++ dcells t := rfl
      have e2 : dcells ((p :: t).take (i + 1)) = [.int .i64 p.1, .int .i64 p.2] ++ dcells (t.take i) := rfl
      have e0 : (i + 1) * 2 = i * 2 + 2 := by omega
      rw [e, e2, e0, ← ih]
      simp
theorem own_drew2 {w : World} {base : Nat} {e : TypeId} {size : Nat} {v : Value} {n : Nat} {xs : List Value} (h : w.ownsRow base e size v n xs) (k : Nat) : (w.drewN k).ownsRow base e size v n xs := h

set_option maxRecDepth 100000 in
set_option maxHeartbeats 8000000 in
theorem ecompact_own {w : World} {base n c : Nat} {A : Option Addr} {l : List (Int × Int)} (h : w.ownsRow base 237 2 (.slice A n c) n (dcells l)) (hb : base ≤ w.heap.size) (hn : n ≤ 9000000000000) :
    Calls Tryz.prog 191 #[.slice A n c] w fun e w' => e = .returned (.slice A (compL l).length c) ∧ w'.ownsRow base 237 2 (.slice A (compL l).length c) (compL l).length (dcells (compL l)) ∧ Below base w w' := by
  have hl := (rd_own h).dlen
  by_cases h2 : n < 2
  · have HC : Hid (compL l = l) := Lib.hid (compL_one l (by omega))
    have HL := Lib.hid hl
    clear hl
    go_enter Tryz.func191, Tryz.ntmps191
    go_wp2
    go_ret
    exact ⟨by rw [HC.out, HL.out]; rfl, by rw [HC.out, HL.out]; exact h, Below.refl _ _⟩
  · obtain ⟨g, rfl, hg1, hg2⟩ := own_addr h (by omega)
    have HL := Lib.hid hl
    have hc1 : compL (l.take 1) = l.take 1 := compL_one _ (by rw [List.length_take]; omega)
    have HC1 := Lib.hid hc1
    clear hl hc1
    go_enter Tryz.func191, Tryz.ntmps191
    go_wp2
    go_loopw [3] (fun s3 wr => ∃ q : Nat, q + 1 ≤ n ∧ s3 = .int .i64 ((q : Int) + 1) ∧ Hid (compL (l.take (q + 1)) = l.take (q + 1)) ∧ wr.ownsRow base 237 2 (.slice (some ⟨g, 0, none⟩) n c) n (dcells l) ∧ Below base w wr) (fun s3 _ => n - (intOf s3).toNat)
    case atStart => exact ⟨0, by omega, rfl, HC1, h, Below.refl _ _⟩
    case round =>
      clear h
      obtain ⟨q, hq, rfl, HE, ho, hbw⟩ := hrel
      by_cases hlt : q + 1 < n
      · obtain ⟨b, off, x, he, hb1, hx, c0, c1⟩ := (rd_own ho).pr (k := q) (by omega)
        cases he
        obtain ⟨_, _, y, he, _, hy, d0, d1⟩ := (rd_own ho).pr (k := q + 1) hlt
        cases he
        have HS := Lib.hid (compL_step hx hy)
        have hw1 : IntKind.i64.wrap ((q : Int) + 1 - 1) = (q : Int) := by rw [show (q : Int) + 1 - 1 = (q : Int) by omega]; exact IntWalk.i64_in _ (by omega)
        have j0 : (0 : Int) ≤ (q : Int) := by omega
        have j1 : (q : Int) < (n : Int) := by omega
        have j2 : (0 : Int) ≤ (q : Int) + 1 := by omega
        have j3 : (q : Int) + 1 < (n : Int) := by omega
        have HX := Lib.hid hx
        have HY := Lib.hid hy
        clear hx hy
        obtain ⟨x1, x2⟩ := x
        obtain ⟨y1, y2⟩ := y
        simp only [Nat.zero_add] at c0 c1 d0 d1
        by_cases hxy : (y1, y2) = (x1, x2)
        · have HE2 : Hid (compL (l.take (q + 2)) = l.take (q + 1)) := Lib.hid (by rw [HS.out, if_pos hxy, HE.out])
          cases hxy
          have hcn : n ≤ c := by
            rcases ho.2 with ⟨_, h0⟩ | ⟨_, _, _, hv, _, _, hnc, _⟩
            · omega
            · injection hv with _ _ hc; omega
          have hcq : (c == q + 1) = false := by simp; omega
          clear HE HS
          go_wp2
          go_quiet (fail)
          go_wp2
          have HX2 := Lib.hid (own_drew2 ho nq)
          have hbw2 := below_drewN hbw nq
          have hts : (l.take (q + 1)) = compL (l.take (q + 1 + 0 + 1)) := by rw [show q + 1 + 0 + 1 = q + 2 by omega]; exact HE2.out.symm
          have HTS := Lib.hid hts
          clear hts ho hbw c0 c1 d0 d1 hw1 hcq
          generalize wr.drewN nq = wo at *
          go_loopw [3, 5] (fun s3 s5 wx => ∃ (k r : Nat) (L : List (Int × Int)), k ≤ q + 1 + r ∧ q + 1 + r + 1 ≤ n ∧ s3 = .int .i64 (k : Int) ∧ s5 = .int .i64 ((r : Int) + 1) ∧ wx.ownsRow base 237 2 (.slice (some ⟨g, 0, none⟩) n c) n (dcells L) ∧ Hid (L.take k = compL (l.take (q + 1 + r + 1)) ∧ L.drop (q + 1 + r) = l.drop (q + 1 + r)) ∧ Below base w wx) (fun _ s5 _ => n - (intOf s5).toNat)
          case atStart => exact ⟨q + 1, 0, l, by omega, by omega, by go_num, rfl, HX2.out, Lib.hid ⟨HTS.out, rfl⟩, hbw2⟩
          case round =>
            clear HX2 hbw2 HTS HE2
            obtain ⟨k, r, L, hkr, hrn, rfl, rfl, ho, HK, hbw⟩ := hrel
            have HLL := Lib.hid (rd_own ho).dlen
            have hgr : g < wr.heap.size := (ho.lt g rfl).2
            have hgb : base ≤ g := (ho.lt g rfl).1
            by_cases hlr : q + 1 + r + 1 < n
            · obtain ⟨b, off, x, he, hb1, hx, c0, c1⟩ := (rd_own ho).pr (k := q + 1 + r) (by omega)
              cases he
              obtain ⟨_, _, y, he, _, hy, d0, d1⟩ := (rd_own ho).pr (k := q + 1 + r + 1) hlr
              cases he
              have hx' : l[q + 1 + r]? = some x := by
                have h1 := congrArg (fun l => l[0]?) HK.out.2
                simpa [hx] using h1.symm
              have hy' : l[q + 1 + r + 1]? = some y := by
                have h1 := congrArg (fun l => l[1]?) HK.out.2
                simpa [hy] using h1.symm
              have HS := Lib.hid (compL_step hx' hy')
              have HY := Lib.hid hy
              have hw1 : IntKind.i64.wrap ((r : Int) + 1 - 1) = (r : Int) := by rw [show (r : Int) + 1 - 1 = (r : Int) by omega]; exact IntWalk.i64_in _ (by omega)
              have j0 : (0 : Int) ≤ (r : Int) := by omega
              have j1 : (r : Int) < ((n - (q + 1) : Nat) : Int) := by omega
              have j2 : (0 : Int) ≤ (r : Int) + 1 := by omega
              have j3 : (r : Int) + 1 < ((n - (q + 1) : Nat) : Int) := by omega
              have j4 : decide ((r : Int) + 1 < ((n - (q + 1) : Nat) : Int)) = true := by simpa using j3
              clear hx hy hx' hy'
              obtain ⟨x1, x2⟩ := x
              obtain ⟨y1, y2⟩ := y
              simp only [Nat.zero_add] at c0 c1 d0 d1
              rw [show (q + 1 + r) * 2 = (q + 1) * 2 + r * 2 by omega] at c0 c1
              rw [show (q + 1 + r + 1) * 2 = (q + 1) * 2 + (r + 1) * 2 by omega] at d0 d1
              by_cases hxy : (y1, y2) = (x1, x2)
              · have HK2 : Hid (L.take k = compL (l.take (q + 1 + (r + 1) + 1)) ∧ L.drop (q + 1 + (r + 1)) = l.drop (q + 1 + (r + 1))) := Lib.hid ⟨by
                  have := HS.out
                  rw [if_pos hxy] at this
                  rw [HK.out.1, show q + 1 + (r + 1) + 1 = q + 1 + r + 2 by omega, this], by
                  have := congrArg (List.drop 1) HK.out.2
                  simpa [List.drop_drop, Nat.add_comm, Nat.add_left_comm, Nat.add_assoc] using this⟩
                cases hxy
                clear HS HK
                go_wp2
                go_quiet (fail)
                go_wp2
                go_roundw
                case rel => exact ⟨k, r + 1, L, by omega, by omega, rfl, by go_num, own_drew2 ho nq, HK2, below_drewN hbw nq⟩
                case measure => simp [intOf]; omega
              · have HK2 : Hid ((L.set k (y1, y2)).take (k + 1) = compL (l.take (q + 1 + (r + 1) + 1)) ∧ (L.set k (y1, y2)).drop (q + 1 + (r + 1)) = l.drop (q + 1 + (r + 1))) := Lib.hid ⟨by
                  have := HS.out
                  rw [if_neg hxy] at this
                  rw [show q + 1 + (r + 1) + 1 = q + 1 + r + 2 by omega, this, ← HK.out.1, List.take_add_one, List.take_set_of_le (Nat.le_refl _), List.getElem?_set_self (by rw [HLL.out]; omega)]; rfl, by
                  rw [List.drop_set_of_lt (by omega)]
                  have := congrArg (List.drop 1) HK.out.2
                  simpa [List.drop_drop, Nat.add_comm, Nat.add_left_comm, Nat.add_assoc] using this⟩
                have hxy2 : ¬ (y1 = x1 ∧ y2 = x2) := fun h => hxy (by rw [h.1, h.2])
                have D0 : ∃ v, wr.cell? ⟨g, k * 2, none⟩ = some v := ⟨_, (ho.cellAt (k * 2) (by omega)).trans (List.getElem?_eq_getElem (by rw [ho.1]; omega))⟩
                have D1 : ∃ v, wr.cell? ⟨g, k * 2 + 1, none⟩ = some v := ⟨_, (ho.cellAt (k * 2 + 1) (by omega)).trans (List.getElem?_eq_getElem (by rw [ho.1]; omega))⟩
                obtain ⟨u0, d2⟩ := D0
                obtain ⟨u1, d3⟩ := D1
                have f0 := ho.frozenAt (k * 2)
                have f1 := ho.frozenAt (k * 2 + 1)
                have HOW := Lib.hid (fun nq => own_set2 (own_drew2 ho nq) k (y1, y2))
                have i0 : (0 : Int) ≤ (k : Int) := by omega
                have i1 : (k : Int) < (n : Int) := by omega
                clear hxy HS HK
                by_cases g1 : y1 = x1 <;> by_cases g2 : y2 = x2
                · exact absurd ⟨g1, g2⟩ hxy2
                all_goals
                  try subst g1
                  try subst g2
                  clear hxy2
                  go_wp2
                  go_quiet (fail)
                  go_wp2
                  go_roundw
                  case rel => exact ⟨k + 1, r + 1, _, by omega, by omega, by go_num, by go_num, HOW.out nq, HK2, ((below_drewN hbw nq).setCell hgb _).setCell hgb _⟩
                  case measure => simp [intOf]; omega
            · obtain rfl : n = q + 1 + r + 1 := by omega
              have HF : Hid (compL l = L.take k ∧ (compL l).length = k) := Lib.hid (by
                have h1 := HK.out.1
                rw [List.take_of_length_le (l := l) (by rw [HL.out]; omega)] at h1
                refine ⟨h1.symm, ?_⟩
                rw [← h1, List.length_take, HLL.out]; omega)
              have j4 : decide ((r : Int) + 1 < ((q + 1 + r + 1 - (q + 1) : Nat) : Int)) = false := by simp; omega
              clear HK
              go_wp2_with ((with_reducible show wpList _ _ _ _ _ _); refine wpList_clear (base := base) rfl (.tmp 56) _ rfl slt_edge ho (i := k) (by omega) rfl (fun _ => rfl) ?_; intro w3 hown3 hg3)
              go_ret
              rw [HF.out.2]
              exact ⟨rfl, by rw [HF.out.1, ← dcells_take]; exact hown3, hbw.grown hg3 (by have := hbw.size; omega) (fun k hk => by cases hk; exact hgb)⟩
        · have HE2 : Hid (compL (l.take (q + 1 + 1)) = l.take (q + 1 + 1)) := Lib.hid (by rw [HS.out, if_neg hxy, HE.out, ← tkSnoc HY.out])
          have hxy2 : ¬ (y1 = x1 ∧ y2 = x2) := fun h => hxy (by rw [h.1, h.2])
          clear hxy HE HS
          by_cases g1 : y1 = x1 <;> by_cases g2 : y2 = x2
          · exact absurd ⟨g1, g2⟩ hxy2
          all_goals
            try subst g1
            try subst g2
            clear hxy2
            go_wp2
            go_quiet (fail)
            go_wp2
            go_roundw
            case rel => exact ⟨q + 1, by omega, by go_num, HE2, own_drew2 ho nq, below_drewN hbw nq⟩
            case measure => simp [intOf]; omega
      · obtain rfl : n = q + 1 := by omega
        have HF : Hid (compL l = l) := Lib.hid (by
          have := HE.out
          rwa [List.take_of_length_le (by rw [HL.out]; omega)] at this)
        go_wp2
        go_ret
        exact ⟨by rw [HF.out, HL.out]; rfl, by rw [HF.out, HL.out]; exact ho, hbw⟩
end Go.Proofs.YtaaahfbcpgdoiaaGreatDoor
