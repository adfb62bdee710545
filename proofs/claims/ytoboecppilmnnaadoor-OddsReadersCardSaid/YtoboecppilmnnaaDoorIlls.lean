
/-
  CONTRACTS of odds.At, slices.Contains at ops, faces.Ills, faces.Lost where the ops are right.
-/
import Derived.Test.YtoboecppilmnnaaDoorFacesAll
import Derived.Test.YtoboecppilmnnaaDoorRFacesP
namespace Go.Proofs.YtoboecppilmnnaaDoor
open Go.RowKit

def oddB (a b : HOp) : Bool := decide (a.tx ≠ b.tx ∧ a.item = b.item ∧ a.item ≠ 0 ∧ (a.what = 2 ∨ b.what = 2))
/-- A dirty write, a dirty read, unrepeated. -/
def dwT (pre : List HOp) (o : HOp) : Bool := decide (o.what = 2) && openB pre o 2
def drT (pre : List HOp) (o : HOp) : Bool := decide (o.what = 1) && openB pre o 2
def unT (pre : List HOp) (o : HOp) : Bool := decide (o.what = 2) && openB pre o 1
def lostTail (a : HOp) (ot : Bool) : List HOp → Bool
  | [] => false
  | b :: t => if (ot || oddB a b) && decide (b.tx = a.tx ∧ b.what = 2 ∧ b.item = a.item) then true else lostTail a (ot || oddB a b) t
def commits (h : List HOp) (tx : Int) : Bool := decide (0 ≤ idxGo (fun o => decide (o = HOp.mk tx 3 0)) 0 h)
def lostOne (h : List HOp) (a : HOp) (t : List HOp) : Bool := decide (a.what = 1) && commits h a.tx && lostTail a false t
def lostGo (h : List HOp) : List HOp → Bool
  | [] => false
  | a :: t => lostOne h a t || lostGo h t
def lostF (h : List HOp) : Bool := lostGo h h

set_option maxHeartbeats 4000000 in
theorem at_any (a b : HOp) (w : World) : Calls Tryd.prog 48 #[a.val, b.val] w fun e w' => e = .returned (.bool (oddB a b)) ∧ Below w.heap.size w w' := by
  obtain ⟨a1, a2, a3⟩ := a
  obtain ⟨b1, b2, b3⟩ := b
  unfold HOp.val
  have hB : ∀ W : World, True := fun _ => trivial
  clear hB
  by_cases h1 : a1 = b1
  · have HF : Hid (oddB ⟨a1, a2, a3⟩ ⟨b1, b2, b3⟩ = false) := Lib.hid (by simp [oddB, h1])
    have h1b : (a1 != b1) = false := by simpa using h1
    go_enter Tryd.func48, Tryd.ntmps48
    go_wp2
    go_ret
    exact ⟨ret_bool HF.out.symm, ((Below.refl _ _).alloc (Nat.le_refl _) _).alloc (by simp) _⟩
  have h1b : (a1 != b1) = true := by simpa using h1
  by_cases h2 : a3 = b3
  · subst h2
    by_cases h3 : a3 = 0
    · have HF : Hid (oddB ⟨a1, a2, a3⟩ ⟨b1, b2, a3⟩ = false) := Lib.hid (by simp [oddB, h3])
      have h3b : (a3 != 0) = false := by simpa using h3
      go_enter Tryd.func48, Tryd.ntmps48
      go_wp2
      go_ret
      exact ⟨ret_bool HF.out.symm, ((Below.refl _ _).alloc (Nat.le_refl _) _).alloc (by simp) _⟩
    have h3b : (a3 != 0) = true := by simpa using h3
    by_cases h4 : a2 = 2
    · have HF : Hid (oddB ⟨a1, a2, a3⟩ ⟨b1, b2, a3⟩ = true) := Lib.hid (by simp [oddB, h1, h3, h4])
      have h4b : (a2 == 2) = true := by simpa using h4
      go_enter Tryd.func48, Tryd.ntmps48
      go_wp2
      go_ret
      exact ⟨ret_bool HF.out.symm, ((Below.refl _ _).alloc (Nat.le_refl _) _).alloc (by simp) _⟩
    · have HF : Hid (oddB ⟨a1, a2, a3⟩ ⟨b1, b2, a3⟩ = (b2 == 2)) := Lib.hid (by by_cases h5 : b2 = 2 <;> simp [oddB, h1, h3, h4, h5])
      have h4b : (a2 == 2) = false := by simpa using h4
      go_enter Tryd.func48, Tryd.ntmps48
      go_wp2
      go_ret
      exact ⟨ret_bool HF.out.symm, ((Below.refl _ _).alloc (Nat.le_refl _) _).alloc (by simp) _⟩
  · have HF : Hid (oddB ⟨a1, a2, a3⟩ ⟨b1, b2, b3⟩ = false) := Lib.hid (by simp [oddB, h2])
    have h2b : (a3 == b3) = false := by simpa using h2
    go_enter Tryd.func48, Tryd.ntmps48
    go_wp2
    go_ret
    exact ⟨ret_bool HF.out.symm, ((Below.refl _ _).alloc (Nat.le_refl _) _).alloc (by simp) _⟩

set_option maxHeartbeats 1000000 in
theorem containsOp_any (A : Option Addr) (n cap : Nat) (h : List HOp) (v : HOp) (w : World) (hr : Rd w w.heap.size 3 A n (cellsH h)) (hm : n ≤ 6000000000000) :
    Calls Tryd.prog 64 #[.slice A n cap, v.val] w fun e w' => e = .returned (.bool (decide (0 ≤ idxGo (fun o => decide (o = v)) 0 h))) ∧ Below w.heap.size w w' := by
  obtain ⟨v1, v2, v3⟩ := v
  have hb0 : Below w.heap.size w (w.alloc (.cells #[.int .i64 v1, .int .i64 v2, .int .i64 v3] 24)) := (Below.refl _ _).alloc (Nat.le_refl _) _
  have C := hide (index_op A n cap h ⟨v1, v2, v3⟩ _ ((hr.below hb0).more hb0.size) hm)
  generalize idxGo (fun o => decide (o = HOp.mk v1 v2 v3)) 0 h = r at *
  unfold HOp.val at *
  go_enter Tryd.func64, Tryd.ntmps64
  go_wp2_with fail
  refine (unhide C).mono ?_
  rintro e w1 ⟨rfl, hb1⟩
  go_wp2
  go_ret
  exact ⟨rfl, hb0.trans (hb1.mono hb0.size)⟩

set_option maxRecDepth 100000 in
set_option maxHeartbeats 4000000 in
theorem ills1_any (A : Option Addr) (n cap : Nat) (h : List HOp) (i : Nat) (x : HOp) (w : World) (hr : Rd w w.heap.size 3 A n (cellsH h)) (hm : n ≤ 1000000) (hcap : n ≤ cap) (hx : h[i]? = some x) (hok : okH h) :
    Calls Tryd.prog 54 #[.slice A n cap, .int .i64 i] w fun e w' => e = .returned (.tuple #[.bool (dwT (h.take i) x), .bool (drT (h.take i) x), .bool (unT (h.take i) x)]) ∧ Below w.heap.size w w' := by
  have hin : i < n := by rw [← hr.hlen]; exact (List.getElem?_eq_some_iff.1 hx).1
  have C2 := hide (fun w1 (hb : Below w.heap.size w w1) => open_any A n cap h i x 2 w1 ((hr.below hb).more hb.size) hm hcap hx (okH_tx hok))
  have C1 := hide (fun w1 (hb : Below w.heap.size w w1) => open_any A n cap h i x 1 w1 ((hr.below hb).more hb.size) hm hcap hx (okH_tx hok))
  obtain ⟨b, off, x', he, hb, hx', c0, c1, c2⟩ := hr.op (k := i) hin
  cases he
  obtain rfl : x = x' := by rw [hx'] at hx; exact (Option.some.inj hx).symm
  have HRO := okH_right hok x (List.mem_of_getElem? hx')
  have HD : Hid (dwT (h.take i) x = (decide (x.what = 2) && openB (h.take i) x 2) ∧ drT (h.take i) x = (decide (x.what = 1) && openB (h.take i) x 2) ∧ unT (h.take i) x = (decide (x.what = 2) && openB (h.take i) x 1)) := Lib.hid ⟨rfl, rfl, rfl⟩
  generalize dwT (h.take i) x = R1 at *
  generalize drT (h.take i) x = R2 at *
  generalize unT (h.take i) x = R3 at *
  obtain ⟨-, -, w1, w2, -, -⟩ := rightB_get HRO
  have hr0 := hr
  clear hx hx' hok hr HRO
  obtain ⟨tx, what, item⟩ := x
  simp only at c0 c1 c2 w1 w2
  have END := hide (ends_any ⟨tx, what, item⟩ w)
  have hkeep : ∀ w' : World, Below w.heap.size w w' → w'.cell? ⟨b, off + i * 3, none⟩ = some (.int .i64 tx) ∧ w'.cell? ⟨b, off + i * 3 + 1, none⟩ = some (.int .i64 what) ∧ w'.cell? ⟨b, off + i * 3 + 2, none⟩ = some (.int .i64 item) := fun w' hw => ⟨(hw.cell (p := ⟨b, _, none⟩) hb).trans c0, (hw.cell (p := ⟨b, _, none⟩) hb).trans c1, (hw.cell (p := ⟨b, _, none⟩) hb).trans c2⟩
  have HKP := hide hkeep
  clear hkeep
  by_cases h3 : 3 ≤ what
  · have hE : endsB ⟨tx, what, item⟩ = true := by simp [endsB]; omega
    have HF : Hid (R1 = false ∧ R2 = false ∧ R3 = false) := Lib.hid (by rw [HD.out.1, HD.out.2.1, HD.out.2.2]; simp; omega)
    rw [hE] at END
    clear hE
    go_enter Tryd.func54, Tryd.ntmps54
    go_wp2_with fail
    refine (unhide END).mono ?_
    rintro e wa ⟨rfl, hba⟩
    go_wp2
    go_ret3
    exact ⟨by rw [HF.out.1, HF.out.2.1, HF.out.2.2]; rfl, hba⟩
  · have hE : endsB ⟨tx, what, item⟩ = false := by simp [endsB]; omega
    rw [hE] at END
    clear hE
    by_cases hw : what = 1
    · subst hw
      have HF : Hid (R1 = false ∧ R2 = openB (h.take i) ⟨tx, 1, item⟩ 2 ∧ R3 = false) := Lib.hid (by rw [HD.out.1, HD.out.2.1, HD.out.2.2]; simp)
      clear HD C1
      generalize openB (h.take i) ⟨tx, 1, item⟩ 2 = d at *
      go_enter Tryd.func54, Tryd.ntmps54
      go_wp2_with fail
      refine (unhide END).mono ?_
      rintro e wa ⟨rfl, hba⟩
      obtain ⟨d0, d1, d2⟩ := unhide HKP wa hba
      clear c0 c1 c2
      go_wp2_with fail
      refine (unhide C2 _ hba).mono ?_
      rintro e wb ⟨rfl, hbb⟩
      have hbw := hba.trans (hbb.mono hba.size)
      cases d
      all_goals
        go_wp2
        go_ret3
        exact ⟨by rw [HF.out.1, HF.out.2.1, HF.out.2.2]; rfl, hbw⟩
    · have hw2 : what = 2 := by omega
      subst hw2
      have HF : Hid (R1 = openB (h.take i) ⟨tx, 2, item⟩ 2 ∧ R2 = false ∧ R3 = openB (h.take i) ⟨tx, 2, item⟩ 1) := Lib.hid (by rw [HD.out.1, HD.out.2.1, HD.out.2.2]; simp)
      clear HD
      generalize openB (h.take i) ⟨tx, 2, item⟩ 2 = d at *
      generalize openB (h.take i) ⟨tx, 2, item⟩ 1 = e1 at *
      go_enter Tryd.func54, Tryd.ntmps54
      go_wp2_with fail
      refine (unhide END).mono ?_
      rintro e wa ⟨rfl, hba⟩
      obtain ⟨d0, d1, d2⟩ := unhide HKP wa hba
      clear c0 c1 c2
      go_wp2_with fail
      refine (unhide C2 _ hba).mono ?_
      rintro e wb ⟨rfl, hbb⟩
      have hbw := hba.trans (hbb.mono hba.size)
      cases d
      all_goals
        go_wp2_with fail
        refine (unhide C1 _ hbw).mono ?_
        rintro e wc ⟨rfl, hbc⟩
        have hbw2 := hbw.trans (hbc.mono hbw.size)
        cases e1
        all_goals
          go_wp2
          go_ret3
          exact ⟨by rw [HF.out.1, HF.out.2.1, HF.out.2.2]; rfl, hbw2⟩

theorem lostTail_step {a b : HOp} {ot : Bool} {l t : List HOp} (h : l = b :: t) : lostTail a ot l = if (ot || oddB a b) && decide (b.tx = a.tx ∧ b.what = 2 ∧ b.item = a.item) then true else lostTail a (ot || oddB a b) t := by rw [h, lostTail]

set_option maxRecDepth 100000 in
set_option maxHeartbeats 4000000 in
theorem lost_any (A : Option Addr) (n cap : Nat) (h : List HOp) (w : World) (hr : Rd w w.heap.size 3 A n (cellsH h)) (hm : n ≤ 1000000) (hcap : n ≤ cap) :
    Calls Tryd.prog 53 #[.slice A n cap] w fun e w' => e = .returned (.bool (lostF h)) ∧ Below w.heap.size w w' := by
  have HL := Lib.hid hr.hlen
  have HLF : Hid (lostF h = lostGo h h) := Lib.hid rfl
  generalize lostF h = R at *
  go_enter Tryd.func53, Tryd.ntmps53
  go_wp2
  go_loopw [10] (fun s10 wr => ∃ k : Nat, k ≤ n ∧ s10 = .int .i64 k ∧ Hid (R = lostGo h (h.drop k)) ∧ Below w.heap.size w wr) (fun s10 _ => n - (intOf s10).toNat)
  case atStart => exact ⟨0, Nat.zero_le _, rfl, HLF, Below.refl _ _⟩
  case round =>
    obtain ⟨k, hk, rfl, HE, hbw⟩ := hrel
    by_cases hlt : k < n
    · obtain ⟨b, off, o, he, hb, ho, c0, c1, c2⟩ := (hr.below hbw).op (k := k) (by omega)
      cases he
      have HO : Hid (h.drop k = o :: h.drop (k + 1)) := drop_at ho
      have HE1 : Hid (R = (lostOne h o (h.drop (k + 1)) || lostGo h (h.drop (k + 1)))) := Lib.hid (by rw [HE.out, HO.out, lostGo])
      clear ho
      have hbwa : Below w.heap.size w (wr.alloc (.cells #[.int .i64 o.tx, .int .i64 o.what, .int .i64 o.item] 24)) := hbw.alloc hbw.size _
      have hOa := Blk.new wr 24 [.int .i64 o.tx, .int .i64 o.what, .int .i64 o.item]
      have CC := hide (containsOp_any (some ⟨b, off, none⟩) n cap h ⟨o.tx, 3, 0⟩ (wr.alloc (.cells #[.int .i64 o.tx, .int .i64 o.what, .int .i64 o.item] 24)) ((hr.below hbwa).more hbwa.size) (by omega))
      rw [show decide (0 ≤ idxGo (fun x => decide (x = HOp.mk o.tx 3 0)) 0 h) = commits h o.tx from rfl] at CC
      have HLO : Hid (lostOne h o (h.drop (k + 1)) = (decide (o.what = 1) && commits h o.tx && lostTail o false (h.drop (k + 1)))) := Lib.hid rfl
      generalize commits h o.tx = cm at *
      obtain ⟨tx, what, item⟩ := o
      simp only at c0 c1 c2 hOa CC hbwa
      by_cases hw : what = 1
      · subst hw
        cases cm
        · have HE2 : Hid (R = lostGo h (h.drop (k + 1))) := Lib.hid (by rw [HE1.out, HLO.out]; simp)
          clear HE1 HE HO HLO
          go_wp2_with fail
          refine (unhide CC).mono ?_
          rintro e wb ⟨rfl, hbb⟩
          have hbwb := hbwa.trans (hbb.mono hbwa.size)
          go_wp2
          go_roundw
          case rel => exact ⟨k + 1, by omega, by go_num, HE2, hbwb⟩
          case measure => simp [intOf]; omega
        · have HE2 : Hid (R = (lostTail ⟨tx, 1, item⟩ false (h.drop (k + 1)) || lostGo h (h.drop (k + 1)))) := Lib.hid (by rw [HE1.out, HLO.out]; simp)
          clear HE1 HE HO HLO
          have hk1 : (k : Int) + 1 ≤ n := by omega
          go_wp2_with fail
          refine (unhide CC).mono ?_
          rintro e wb ⟨rfl, hbb⟩
          have hbwb := hbwa.trans (hbb.mono hbwa.size)
          have hOb := hOa.below hbb (by simp)
          clear hbb hOa hbwa
          by_cases hcc : cap = k + 1
          · have HE3 : Hid (R = lostGo h (h.drop (k + 1))) := Lib.hid (by rw [HE2.out, drop_end (l := h) (k := k + 1) (by rw [HL.out]; omega)]; rfl)
            have hnk : n = k + 1 := by omega
            subst hcc
            have HNK := Lib.hid hnk
            clear hnk
            go_wp2
            have hn0 : n - (k + 1) = 0 := by have := HNK.out; omega
            try rw [hn0]
            clear hn0
            go_loop [31] (fun s31 => s31 = .int .i64 0) (fun _ => 0)
            case atStart => rfl
            case round =>
              subst hrel
              go_wp2
              go_roundw
              case rel => exact ⟨k + 1, by omega, by go_num, HE3, hbwb⟩
              case measure => simp [intOf]; omega
          · go_wp2
            clear hcc
            have HM : Hid (n = k + 1 + (n - (k + 1))) := Lib.hid (by omega)
            have hmn : n - (k + 1) ≤ n := Nat.sub_le _ _
            generalize n - (k + 1) = m at *
            generalize hob : wr.heap.size = ob at *
            clear hob
            go_loopw [5, 31] (fun s5 s31 wx => ∃ (j : Nat) (ot : Bool), j ≤ m ∧ s31 = .int .i64 j ∧ s5 = .bool ot ∧ Hid (lostTail ⟨tx, 1, item⟩ false (h.drop (k + 1)) = lostTail ⟨tx, 1, item⟩ ot (h.drop (k + 1 + j))) ∧ Blk wx ob 24 [.int .i64 tx, .int .i64 1, .int .i64 item] ∧ Below w.heap.size w wx) (fun _ s31 _ => m - (intOf s31).toNat)
            case atStart => exact ⟨0, false, Nat.zero_le _, rfl, rfl, rfl, hOb, hbwb⟩
            case round =>
              clear hOb hbwb c0 c1 c2
              obtain ⟨j, ot, hj, rfl, rfl, HT, hOx, hbx⟩ := hrel
              by_cases hjm : j < m
              · obtain ⟨b', off', o2, he, hb2, ho2, d0, d1, d2⟩ := (hr.below hbx).op (k := k + 1 + j) (by have := HM.out; omega)
                cases he
                have HS := Lib.hid (lostTail_step (a := ⟨tx, 1, item⟩) (ot := ot) (drop_at ho2))
                have hadr : off + (k + 1 + j) * 3 = off + (k + 1) * 3 + j * 3 := by omega
                rw [hadr] at d0 d1 d2
                clear ho2 hadr
                have hbxa := hbx.alloc hbx.size (.cells #[.int .i64 o2.tx, .int .i64 o2.what, .int .i64 o2.item] 24)
                have hOxa := hOx.alloc (.cells #[.int .i64 o2.tx, .int .i64 o2.what, .int .i64 o2.item] 24)
                have hPxa := Blk.new wr 24 [.int .i64 o2.tx, .int .i64 o2.what, .int .i64 o2.item]
                have hox := hOx.lt
                obtain ⟨x0, x1, x2⟩ := ocells hOx
                have CA := hide (at_any ⟨tx, 1, item⟩ o2 (wr.alloc (.cells #[.int .i64 o2.tx, .int .i64 o2.what, .int .i64 o2.item] 24)))
                generalize oddB ⟨tx, 1, item⟩ o2 = q at *
                obtain ⟨p1, p2, p3⟩ := o2
                simp only at d0 d1 d2 hbxa hOxa hPxa CA HS
                have hstep : ∀ o' : Bool, (ot || q) = o' → ¬ (o' = true ∧ p1 = tx ∧ p2 = 2 ∧ p3 = item) → Hid (lostTail ⟨tx, 1, item⟩ false (h.drop (k + 1)) = lostTail ⟨tx, 1, item⟩ o' (h.drop (k + 1 + (j + 1)))) := fun o' h1 h2 => Lib.hid (by
                  rw [HT.out, HS.out, h1, if_neg (by rw [Bool.and_eq_true, decide_eq_true_iff]; exact h2)]; rfl)
                have hhit : (ot || q) = true → p1 = tx → p2 = 2 → p3 = item → Hid (R = true) := fun h1 h2 h3 h4 => Lib.hid (by
                  rw [HE2.out, HT.out, HS.out, h1, if_pos (by simp [h2, h3, h4])]; rfl)
                have HSTEP := hide hstep
                have HHIT := hide hhit
                clear hstep hhit HS HT
                go_wp2_with fail
                refine (unhide CA).mono ?_
                rintro e wy ⟨rfl, hby⟩
                have hOy := hOxa.below hby hOxa.lt
                have hPy := hPxa.below hby hPxa.lt
                have hbwy := hbxa.trans (hby.mono hbxa.size)
                obtain ⟨x0, x1, x2⟩ := ocells hOy
                obtain ⟨y0, y1, y2⟩ := ocells hPy
                clear hby hOxa hPxa hbxa CA hOx d0 d1 d2
                by_cases hq : (ot || q) = true
                · have hcs : (ot = true ∧ q = true) ∨ (ot = true ∧ q = false) ∨ (ot = false ∧ q = true) := by cases ot <;> cases q <;> simp at hq ⊢
                  have HQ := Lib.hid hq
                  clear hq
                  by_cases g1 : p1 = tx
                  · by_cases g2 : p2 = 2
                    · by_cases g3 : p3 = item
                      · have HF := unhide HHIT HQ.out g1 g2 g3
                        subst g1 g2 g3
                        clear HSTEP HHIT HQ
                        rcases hcs with ⟨rfl, rfl⟩ | ⟨rfl, rfl⟩ | ⟨rfl, rfl⟩
                        all_goals
                          go_wp2
                          go_ret
                          exact ⟨ret_bool HF.out.symm, hbwy⟩
                      · have HN := unhide HSTEP true HQ.out (fun h => g3 h.2.2.2)
                        have g3b : (p3 == item) = false := by simpa using g3
                        subst g1 g2
                        clear HSTEP HHIT HQ
                        rcases hcs with ⟨rfl, rfl⟩ | ⟨rfl, rfl⟩ | ⟨rfl, rfl⟩
                        all_goals
                          go_wp2
                          go_roundw
                          case rel => exact ⟨j + 1, true, by omega, by go_num, rfl, HN, hOy, hbwy⟩
                          case measure => simp [intOf]; omega
                    · have HN := unhide HSTEP true HQ.out (fun h => g2 h.2.2.1)
                      have g2b : (p2 == 2) = false := by simpa using g2
                      subst g1
                      clear HSTEP HHIT HQ
                      rcases hcs with ⟨rfl, rfl⟩ | ⟨rfl, rfl⟩ | ⟨rfl, rfl⟩
                      all_goals
                        go_wp2
                        go_roundw
                        case rel => exact ⟨j + 1, true, by omega, by go_num, rfl, HN, hOy, hbwy⟩
                        case measure => simp [intOf]; omega
                  · have HN := unhide HSTEP true HQ.out (fun h => g1 h.2.1)
                    have g1b : (p1 == tx) = false := by simpa using g1
                    clear HSTEP HHIT HQ
                    rcases hcs with ⟨rfl, rfl⟩ | ⟨rfl, rfl⟩ | ⟨rfl, rfl⟩
                    all_goals
                      go_wp2
                      go_roundw
                      case rel => exact ⟨j + 1, true, by omega, by go_num, rfl, HN, hOy, hbwy⟩
                      case measure => simp [intOf]; omega
                · have hcs : ot = false ∧ q = false := by cases ot <;> cases q <;> simp at hq ⊢
                  obtain ⟨rfl, rfl⟩ := hcs
                  have HN := unhide HSTEP false rfl (fun h => by cases h.1)
                  clear HSTEP HHIT hq
                  go_wp2
                  go_roundw
                  case rel => exact ⟨j + 1, false, by omega, by go_num, rfl, HN, hOy, hbwy⟩
                  case measure => simp [intOf]; omega
              · have HE3 : Hid (R = lostGo h (h.drop (k + 1))) := Lib.hid (by rw [HE2.out, HT.out, drop_end (l := h) (k := k + 1 + j) (by have := HM.out; rw [HL.out]; omega)]; rfl)
                go_wp2
                go_roundw
                case rel => exact ⟨k + 1, by omega, by go_num, HE3, hbx⟩
                case measure => simp [intOf]; omega
      · have HE2 : Hid (R = lostGo h (h.drop (k + 1))) := Lib.hid (by rw [HE1.out, HLO.out]; simp [hw])
        have hwb : (what != 1) = true := by simpa using hw
        clear HE1 HE HO CC HLO
        go_wp2
        go_roundw
        case rel => exact ⟨k + 1, by omega, by go_num, HE2, hbwa⟩
        case measure => simp [intOf]; omega
    · have HF : Hid (R = false) := Lib.hid (by rw [HE.out, drop_end (by rw [HL.out]; omega)]; rfl)
      go_wp2
      go_ret
      exact ⟨ret_bool HF.out.symm, hbw⟩
end Go.Proofs.YtoboecppilmnnaaDoor
