
/-
  CONTRACTS of the reference's laneref1.SameDeals, Alike.
-/
import Derived.Test.YtkpnpkikonlmpaaDoorROdds
import Derived.Test.YtkpnpkikonlmpaaDoorOwn
import Derived.Test.YtkpnpkikonlmpaaDoorPieces
import Derived.Test.YtkpnpkikonlmpaaDoorM1
import Derived.StillTailTactics
import Derived.Deep.RegionHeld3
import Derived.Test.YtkpnpkikonlmpaaDoorN1

namespace Go.Proofs.YtkpnpkikonlmpaaDoor
open Go.RowKit

theorem cellsH_take2 (h : List HOp) (k : Nat) : cellsH (h.take k) = (cellsH h).take (k * 3) := (cellsH_take h k).symm
theorem Rd.takeH {w : World} {B n : Nat} {A : Option Addr} {l : List HOp} (h : Rd w B 3 A n (cellsH l)) {k : Nat} (hk : k ≤ n) : Rd w B 3 A k (cellsH (l.take k)) := by
  refine ⟨by rw [cellsH_length, List.length_take, h.hlen]; omega, fun h0 => ?_⟩
  obtain ⟨b, off, hA, hb, hc⟩ := h.2 (by omega)
  refine ⟨b, off, hA, hb, fun j u hu => hc j u ?_⟩
  rw [cellsH_take2, List.getElem?_take] at hu
  split at hu
  · exact hu
  · cases hu
theorem sameGo_step (h g : List HOp) (r : Nat) (t : Int) : sameGo h g (r + 1) t = (decide (ownL h t = ownL g t) && sameGo h g r (t + 1)) := rfl
set_option maxRecDepth 100000 in
set_option maxHeartbeats 8000000 in
theorem rsameDeals_any (A B : Option Addr) (n m c d : Nat) (h g : List HOp) (w : World) (hr : Rd w w.heap.size 3 A n (cellsH h)) (hg : Rd w w.heap.size 3 B m (cellsH g)) (hn : n ≤ 1000000) (hm : m ≤ 1000000) :
    Calls Tryd.prog 31 #[.slice A n c, .slice B m d] w fun e w' => e = .returned (.bool (sameOwnB h g)) ∧ Below w.heap.size w w' := by
  have HF : Hid (sameOwnB h g = sameGo h g 6 (1 : Nat)) := Lib.hid (sameGo_eq h g).symm
  have CH := hide (fun t w1 (hb : Below w.heap.size w w1) => rof_any A n c h t w1 ((hr.below hb).more hb.size) hn)
  have CG := hide (fun t w1 (hb : Below w.heap.size w w1) => rof_any B m d g t w1 ((hg.below hb).more hb.size) hm)
  generalize sameOwnB h g = R at *
  go_enter Tryd.func31, Tryd.ntmps31
  go_wp2
  go_loopw [5, 6, 7, 8] (fun s5 _ _ _ wr => ∃ t r : Nat, 1 ≤ t ∧ t + r = 7 ∧ s5 = .int .i64 t ∧ Hid (R = sameGo h g r t) ∧ Below w.heap.size w wr) (fun s5 _ _ _ _ => 7 - (intOf s5).toNat)
  case atStart => exact ⟨1, 6, by omega, by omega, rfl, HF, Below.refl _ _⟩
  case round =>
    clear HF
    obtain ⟨t, r, ht1, ht7, rfl, HE, hbw⟩ := hrel
    by_cases ht6 : t ≤ 6
    · obtain ⟨r', rfl⟩ : ∃ r', r = r' + 1 := ⟨r - 1, by omega⟩
      have HE2 := Lib.hid (HE.out.trans (sameGo_step h g r' t))
      have C1 := hide (unhide CH t wr hbw)
      clear HE
      go_wp2_with fail
      refine (unhide C1).mono ?_
      rintro e w1 ⟨v1, m1, rfl, ho1, hm1, hb1⟩
      obtain ⟨A1, c1, rfl⟩ := own_slice ho1
      have hd1 := rd_own ho1
      have hbw1 := hbw.trans (hb1.mono hbw.size)
      have C2 := hide (unhide CG t w1 hbw1)
      clear C1 ho1 hb1
      go_wp2_with fail
      refine (unhide C2).mono ?_
      rintro e w2 ⟨v2, m2, rfl, ho2, hm2, hb2⟩
      obtain ⟨A2, c2, rfl⟩ := own_slice ho2
      have hd2 := rd_own ho2
      have hd12 := (hd1.below hb2).more hb2.size
      have hbw2 := hbw1.trans (hb2.mono hbw1.size)
      have hl1 := hd1.hlen
      have hl2 := hd2.hlen
      clear C2 ho2 hb2 hd1 hbw1 hbw
      by_cases hnm : m1 = m2
      · have hnm2 : ((m1 : Int) != (m2 : Int)) = false := by simp [hnm]
        have HL := Lib.hid (And.intro hl1 (And.intro hl2 hnm))
        have hle : m1 ≤ m2 := by omega
        have K2 := hide (fun w' (hb : Below w2.heap.size w2 w') => And.intro (hbw2.trans (hb.mono hbw2.size)) (And.intro (hd12.below hb) (hd2.below hb)))
        clear hnm hl1 hl2 hbw2 hd12 hd2
        go_wp2
        clear hnm2
        go_loopw [8] (fun s8 wx => ∃ k : Nat, k ≤ m1 ∧ s8 = .int .i64 k ∧ Hid ((ownL h t).take k = (ownL g t).take k) ∧ Below w2.heap.size w2 wx) (fun s8 _ => m1 - (intOf s8).toNat)
        case atStart => exact ⟨0, Nat.zero_le _, rfl, rfl, Below.refl _ _⟩
        case round =>
          obtain ⟨k, hk, rfl, HT0, hbx⟩ := hrel
          obtain ⟨hbwx, hda, hdb⟩ := unhide K2 wr hbx
          by_cases hlt : k < m1
          · obtain ⟨b1, o1, x, he, _, hx, c1', c2', c3'⟩ := hda.op (k := k) (by omega)
            cases he
            obtain ⟨b2, o2, y, he, _, hy, d1, d2, d3⟩ := hdb.op (k := k) (by omega)
            cases he
            have HT := Lib.hid (take_same HT0.out hx hy)
            clear hx hy HT0
            have hlm : k < m2 := by omega
            by_cases hxy : x = y
            · have HE3 := Lib.hid (HT.out.1 hxy)
              subst hxy
              go_wp2
              go_quiet (fail)
              go_wp2
              go_roundw
              case rel => exact ⟨k + 1, by omega, by go_num, HE3, below_drewN hbx _⟩
              case measure => simp [intOf]; omega
            · have HE3 : Hid (R = false) := Lib.hid (by rw [HE2.out, decide_eq_false (HT.out.2 hxy)]; rfl)
              obtain ⟨x1, x2, x3⟩ := x
              obtain ⟨y1, y2, y3⟩ := y
              have hxy2 : ¬ (x1 = y1 ∧ x2 = y2 ∧ x3 = y3) := fun h => hxy (by rw [h.1, h.2.1, h.2.2])
              clear hxy
              by_cases g1 : x1 = y1 <;> by_cases g2 : x2 = y2 <;> by_cases g3 : x3 = y3
              · exact absurd ⟨g1, g2, g3⟩ hxy2
              all_goals
                try subst g1
                try subst g2
                try subst g3
                clear hxy2
                go_wp2
                go_quiet (fail)
                go_wp2
                go_ret
                exact ⟨ret_bool HE3.out.symm, below_drewN hbwx _⟩
          · have HE3 : Hid (R = sameGo h g r' (t + 1 : Nat)) := Lib.hid (by
              have := HT0.out
              rw [List.take_of_length_le (by rw [HL.out.1]; omega), List.take_of_length_le (by rw [HL.out.2.1, ← HL.out.2.2]; omega)] at this
              rw [HE2.out, decide_eq_true this]; rfl)
            go_wp2
            go_roundw
            case rel => exact ⟨t + 1, r', by omega, by omega, by go_num, HE3, hbwx⟩
            case measure => simp [intOf]; omega
      · have HE3 : Hid (R = false) := Lib.hid (by
          rw [HE2.out, decide_eq_false (fun e => hnm (by rw [← hl1, ← hl2, e]))]; rfl)
        have hnm2 : ((m1 : Int) != (m2 : Int)) = true := by simp; omega
        clear hl1 hl2 hnm
        go_wp2
        go_ret
        exact ⟨ret_bool HE3.out.symm, hbw2⟩
    · obtain rfl : r = 0 := by omega
      have HE2 : Hid (R = true) := Lib.hid (by rw [HE.out]; rfl)
      go_wp2
      go_ret
      exact ⟨ret_bool HE2.out.symm, hbw⟩

/-! ### The reference's Alike. -/
theorem placeGo_at {t : Int} : ∀ {l : List HOp} {i : Int} {j : Nat} {o : HOp}, l[j]? = some o → o.tx = t → placeGo t i (cntT (l.take j) t : Nat) l = i + j
  | [], i, j, o, h, _ => by simp at h
  | x :: r, i, 0, o, h, ht => by
    have hx : x = o := by simpa using h
    subst hx
    rw [placeGo, if_pos ht]
    simp [cntT]
  | x :: r, i, j + 1, o, h, ht => by
    have h' : r[j]? = some o := by simpa using h
    rw [placeGo, List.take_succ_cons, cntT_cons]
    by_cases hx : x.tx = t
    · rw [if_pos hx, if_pos hx, if_neg (by omega), show ((1 + cntT (r.take j) t : Nat) : Int) - 1 = (cntT (r.take j) t : Nat) by omega, placeGo_at h' ht]; omega
    · rw [if_neg hx, if_neg hx, Nat.zero_add, placeGo_at h' ht]; omega
theorem placeF_at {g : List HOp} {j : Nat} {o : HOp} (h : g[j]? = some o) : placeF g o.tx (cntT (g.take j) o.tx : Nat) = j := by
  unfold placeF
  rw [placeGo_at h rfl]; omega
def badP (h g : List HOp) (i k : Nat) (a b : HOp) : Bool := oddB a b && decide (placeF g a.tx (cntT (h.take i) a.tx : Nat) > placeF g b.tx (cntT (h.take k) b.tx : Nat))
def rowOk (h g : List HOp) (i : Nat) (a : HOp) (k : Nat) : List HOp → Bool
  | [] => true
  | b :: t => !badP h g i k a b && rowOk h g i a (k + 1) t
def allOk (h g : List HOp) (i : Nat) : List HOp → Bool
  | [] => true
  | a :: t => rowOk h g i a (i + 1) t && allOk h g (i + 1) t
theorem rowOk_step {h g : List HOp} {i k : Nat} {a b : HOp} {l t : List HOp} (e : l = b :: t) : rowOk h g i a k l = (!badP h g i k a b && rowOk h g i a (k + 1) t) := by rw [e, rowOk]
theorem allOk_step {h g : List HOp} {i : Nat} {a : HOp} {l t : List HOp} (e : l = a :: t) : allOk h g i l = (rowOk h g i a (i + 1) t && allOk h g (i + 1) t) := by rw [e, allOk]
theorem rowOk_iff {h g : List HOp} {i : Nat} {a : HOp} : ∀ {l : List HOp} {k : Nat}, rowOk h g i a k l = true ↔ ∀ (j : Nat) (b : HOp), l[j]? = some b → badP h g i (k + j) a b = false
  | [], k => by simp [rowOk]
  | x :: r, k => by
    rw [rowOk, Bool.and_eq_true, rowOk_iff]
    constructor
    · rintro ⟨h1, h2⟩ j b hj
      cases j with
      | zero =>
        have : x = b := by simpa using hj
        subst this
        simpa using h1
      | succ j =>
        have := h2 j b (by simpa using hj)
        rwa [show k + 1 + j = k + (j + 1) by omega] at this
    · intro hall
      refine ⟨by simpa using hall 0 x rfl, fun j b hj => ?_⟩
      have := hall (j + 1) b (by simpa using hj)
      rwa [show k + (j + 1) = k + 1 + j by omega] at this
theorem allOk_iff {h g : List HOp} : ∀ {l : List HOp} {i : Nat}, allOk h g i l = true ↔ ∀ (j k : Nat) (a b : HOp), j < k → l[j]? = some a → l[k]? = some b → badP h g (i + j) (i + k) a b = false
  | [], i => by simp [allOk]
  | x :: r, i => by
    rw [allOk, Bool.and_eq_true, rowOk_iff, allOk_iff]
    constructor
    · rintro ⟨h1, h2⟩ j k a b hjk ha hb
      obtain ⟨k, rfl⟩ : ∃ k', k = k' + 1 := ⟨k - 1, by omega⟩
      rw [List.getElem?_cons_succ] at hb
      cases j with
      | zero =>
        have : x = a := by simpa using ha
        subst this
        have := h1 k b hb
        rwa [show i + 1 + k = i + (k + 1) by omega] at this
      | succ j =>
        rw [List.getElem?_cons_succ] at ha
        have := h2 j k a b (by omega) ha hb
        rwa [show i + 1 + j = i + (j + 1) by omega, show i + 1 + k = i + (k + 1) by omega] at this
    · intro hall
      refine ⟨fun j b hb => ?_, fun j k a b hjk ha hb => ?_⟩
      · have := hall 0 (j + 1) x b (by omega) rfl (by simpa using hb)
        rwa [show i + (j + 1) = i + 1 + j by omega] at this
      · have := hall (j + 1) (k + 1) a b (by omega) (by simpa using ha) (by simpa using hb)
        rwa [show i + (j + 1) = i + 1 + j by omega, show i + (k + 1) = i + 1 + k by omega] at this
theorem alike_allOk {h g : List HOp} (ht : ∀ o ∈ h, 1 ≤ o.tx ∧ o.tx ≤ 6) (hs : sameOwnB h g = true) : alikeB h g = allOk h g 0 h := by
  rw [Bool.eq_iff_iff, alikeB_iff ht, allOk_iff]
  have hown : ∀ o ∈ h, ownL h o.tx = ownL g o.tx := fun o ho => sameOwnB_iff.1 hs _ (ht o ho).1 (ht o ho).2
  constructor
  · rintro ⟨_, hk⟩ j k a b hjk ha hb
    rw [Nat.zero_add, Nat.zero_add]
    unfold badP
    cases ho : oddB a b
    · rfl
    · obtain ⟨j', h1, h2⟩ := name_in ha (hown a (List.mem_of_getElem? ha))
      obtain ⟨k', h3, h4⟩ := name_in hb (hown b (List.mem_of_getElem? hb))
      have := hk j k a b hjk ha hb ho j' k' h1 h3 h2 h4
      rw [← h2, ← h4, placeF_at h1, placeF_at h3, Bool.true_and, decide_eq_false_iff_not]
      omega
  · intro hall
    refine ⟨hs, fun i k a b hik ha hb ho i' k' ha' hb' hca hcb => ?_⟩
    have h1 := hall i k a b hik ha hb
    rw [Nat.zero_add, Nat.zero_add] at h1
    unfold badP at h1
    rw [ho, Bool.true_and, decide_eq_false_iff_not, ← hca, ← hcb, placeF_at ha', placeF_at hb'] at h1
    have hne : i' ≠ k' := by
      rintro rfl
      rw [ha'] at hb'
      injection hb' with e
      subst e
      unfold oddB at ho
      exact (of_decide_eq_true ho).1 rfl
    omega
theorem alike_not {h g : List HOp} (hs : sameOwnB h g = false) : alikeB h g = false := by unfold alikeB; rw [hs]; rfl

end Go.Proofs.YtkpnpkikonlmpaaDoor
