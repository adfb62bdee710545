
/-
  CONTRACTS of odds.At, slices.Contains at ops, faces.Ills, faces.Lost where the ops are right.
  PLAIN FACTS on ills: what is strict, rigorous by them; what is lost was unrepeated; the first op with one.
  PLAIN LAWS: deals that each read and write one item, one behind the other: their order, their order by view, their faces.
-/
import Derived.Test.YtaaahfbcpgdoiaaGreatDoorQ32
import Derived.Test.YtaaahfbcpgdoiaaGreatDoorQ39
import Derived.Test.YtaaahfbcpgdoiaaGreatDoorQ7
import Derived.Test.YtaaahfbcpgdoiaaGreatDoorQ24
import Derived.Test.YtaaahfbcpgdoiaaGreatDoorViewS
import Derived.Test.YtaaahfbcpgdoiaaGreatDoorQ38
import Derived.Test.YtaaahfbcpgdoiaaGreatDoorQ23

namespace Go.Proofs.YtaaahfbcpgdoiaaGreatDoor
open Go.RowKit

/-- A dirty write, a dirty read, unrepeated. -/
def dwT (pre : List HOp) (o : HOp) : Bool := decide (o.what = 2) && openB pre o 2
def drT (pre : List HOp) (o : HOp) : Bool := decide (o.what = 1) && openB pre o 2
def unT (pre : List HOp) (o : HOp) : Bool := decide (o.what = 2) && openB pre o 1
def lostTail (a : HOp) (ot : Bool) : List HOp → Bool
  | [] => false
  | b :: t => if (ot || oddB a b) && decide (b.tx = a.tx ∧ b.what = 2 ∧ b.item = a.item) then true else lostTail a (ot || oddB a b) t
def commits (h : List HOp) (tx : Int) : Bool := decide (0 ≤ idxGo (fun o => decide (o = HOp.mk tx 3 0)) 0 h)
def lostOne (h : List HOp) (a : HOp) (t : List HOp) : Bool := decide (a.what = 1) && commits h a.tx && lostTail a false t
def lostGo (h : List HOp) : List HOp → Bool
  | [] => false
  | a :: t => lostOne h a t || lostGo h t
def lostF (h : List HOp) : Bool := lostGo h h

set_option maxHeartbeats 1000000 in
theorem containsOp_any (A : Option Addr) (n cap : Nat) (h : List HOp) (v : HOp) (w : World) (hr : Rd w w.heap.size 3 A n (cellsH h)) (hm : n ≤ 6000000000000) :
    Calls Tryz.prog 152 #[.slice A n cap, v.val] w fun e w' => e = .returned (.bool (decide (0 ≤ idxGo (fun o => decide (o = v)) 0 h))) ∧ Below w.heap.size w w' := by
  obtain ⟨v1, v2, v3⟩ := v
  have hb0 : Below w.heap.size w (w.alloc (.cells #[.int .i64 v1, .int .i64 v2, .int .i64 v3] 91)) := (Below.refl _ _).alloc (Nat.le_refl _) _
  have C := hide (index_op A n cap h ⟨v1, v2, v3⟩ _ ((hr.below hb0).more hb0.size) hm)
  generalize idxGo (fun o => decide (o = HOp.mk v1 v2 v3)) 0 h = r at *
  unfold HOp.val at *
  go_enter Tryz.func152, Tryz.ntmps152
  go_wp2_with fail
  refine (unhide C).mono ?_
  rintro e w1 ⟨rfl, hb1⟩
  go_wp2
  go_ret
  exact ⟨rfl, hb0.trans (hb1.mono hb0.size)⟩

set_option maxRecDepth 100000 in
set_option maxHeartbeats 4000000 in
theorem ills1_any (A : Option Addr) (n cap : Nat) (h : List HOp) (i : Nat) (x : HOp) (w : World) (hr : Rd w w.heap.size 3 A n (cellsH h)) (hm : n ≤ 1000000) (hcap : n ≤ cap) (hx : h[i]? = some x) (hok : okH h) :
    Calls Tryz.prog 109 #[.slice A n cap, .int .i64 i] w fun e w' => e = .returned (.tuple #[.bool (dwT (h.take i) x), .bool (drT (h.take i) x), .bool (unT (h.take i) x)]) ∧ Below w.heap.size w w' := by
  have hin : i < n := by rw [← hr.hlen]; exact (List.getElem?_eq_some_iff.1 hx).1
  have C2 := hide (fun w1 (hb : Below w.heap.size w w1) => open_any A n cap h i x 2 w1 ((hr.below hb).more hb.size) hm hcap hx (okH_tx hok))
  have C1 := hide (fun w1 (hb : Below w.heap.size w w1) => open_any A n cap h i x 1 w1 ((hr.below hb).more hb.size) hm hcap hx (okH_tx hok))
  obtain ⟨b, off, x', he, hb, hx', c0, c1, c2⟩ := hr.op (k := i) hin
  cases he
  obtain rfl : x = x' := by rw [hx'] at hx; exact (Option.some.inj hx).symm
  have HRO := okH_right hok x (List.mem_of_getElem? hx')
  have HD : Hid (dwT (h.take i) x = (decide (x.what = 2) && openB (h.take i) x 2) ∧ drT (h.take i) x = (decide (x.what = 1) && openB (h.take i) x 2) ∧ unT (h.take i) x = (decide (x.what = 2) && openB (h.take i) x 1)) := Lib.hid ⟨rfl, rfl, rfl⟩
  generalize dwT (h.take i) x = R1 at *
  generalize drT (h.take i) x = R2 at *
  generalize unT (h.take i) x = R3 at *
  obtain ⟨-, -, w1, w2, -, -⟩ := rightB_get HRO
  have hr0 := hr
  clear hx hx' hok hr HRO
  obtain ⟨tx, what, item⟩ := x
  simp only at c0 c1 c2 w1 w2
  have END := hide (ends_any ⟨tx, what, item⟩ w)
  have hkeep : ∀ w' : World, Below w.heap.size w w' → w'.cell? ⟨b, off + i * 3, none⟩ = some (.int .i64 tx) ∧ w'.cell? ⟨b, off + i * 3 + 1, none⟩ = some (.int .i64 what) ∧ w'.cell? ⟨b, off + i * 3 + 2, none⟩ = some (.int .i64 item) := fun w' hw => ⟨(hw.cell (p := ⟨b, _, none⟩) hb).trans c0, (hw.cell (p := ⟨b, _, none⟩) hb).trans c1, (hw.cell (p := ⟨b, _, none⟩) hb).trans c2⟩
  have HKP := hide hkeep
  clear hkeep
  by_cases h3 : 3 ≤ what
  · have hE : endsB ⟨tx, what, item⟩ = true := by simp [endsB]; omega
    have HF : Hid (R1 = false ∧ R2 = false ∧ R3 = false) := Lib.hid (by rw [HD.out.1, HD.out.2.1, HD.out.2.2]; simp; omega)
    rw [hE] at END
    clear hE
    go_enter Tryz.func109, Tryz.ntmps109
    go_wp2_with fail
    refine (unhide END).mono ?_
    rintro e wa ⟨rfl, hba⟩
    go_wp2
    go_ret3
    exact ⟨by rw [HF.out.1, HF.out.2.1, HF.out.2.2]; rfl, hba⟩
  · have hE : endsB ⟨tx, what, item⟩ = false := by simp [endsB]; omega
    rw [hE] at END
    clear hE
    by_cases hw : what = 1
    · subst hw
      have HF : Hid (R1 = false ∧ R2 = openB (h.take i) ⟨tx, 1, item⟩ 2 ∧ R3 = false) := Lib.hid (by rw [HD.out.1, HD.out.2.1, HD.out.2.2]; simp)
      clear HD C1
      generalize openB (h.take i) ⟨tx, 1, item⟩ 2 = d at *
      go_enter Tryz.func109, Tryz.ntmps109
      go_wp2_with fail
      refine (unhide END).mono ?_
      rintro e wa ⟨rfl, hba⟩
      obtain ⟨d0, d1, d2⟩ := unhide HKP wa hba
      clear c0 c1 c2
      go_wp2_with fail
      refine (unhide C2 _ hba).mono ?_
      rintro e wb ⟨rfl, hbb⟩
      have hbw := hba.trans (hbb.mono hba.size)
      cases d
      all_goals
        go_wp2
        go_ret3
        exact ⟨by rw [HF.out.1, HF.out.2.1, HF.out.2.2]; rfl, hbw⟩
    · have hw2 : what = 2 := by omega
      subst hw2
      have HF : Hid (R1 = openB (h.take i) ⟨tx, 2, item⟩ 2 ∧ R2 = false ∧ R3 = openB (h.take i) ⟨tx, 2, item⟩ 1) := Lib.hid (by rw [HD.out.1, HD.out.2.1, HD.out.2.2]; simp)
      clear HD
      generalize openB (h.take i) ⟨tx, 2, item⟩ 2 = d at *
      generalize openB (h.take i) ⟨tx, 2, item⟩ 1 = e1 at *
      go_enter Tryz.func109, Tryz.ntmps109
      go_wp2_with fail
      refine (unhide END).mono ?_
      rintro e wa ⟨rfl, hba⟩
      obtain ⟨d0, d1, d2⟩ := unhide HKP wa hba
      clear c0 c1 c2
      go_wp2_with fail
      refine (unhide C2 _ hba).mono ?_
      rintro e wb ⟨rfl, hbb⟩
      have hbw := hba.trans (hbb.mono hba.size)
      cases d
      all_goals
        go_wp2_with fail
        refine (unhide C1 _ hbw).mono ?_
        rintro e wc ⟨rfl, hbc⟩
        have hbw2 := hbw.trans (hbc.mono hbw.size)
        cases e1
        all_goals
          go_wp2
          go_ret3
          exact ⟨by rw [HF.out.1, HF.out.2.1, HF.out.2.2]; rfl, hbw2⟩

theorem lostTail_step {a b : HOp} {ot : Bool} {l t : List HOp} (h : l = b :: t) : lostTail a ot l = if (ot || oddB a b) && decide (b.tx = a.tx ∧ b.what = 2 ∧ b.item = a.item) then true else lostTail a (ot || oddB a b) t := by rw [h, lostTail]

set_option maxRecDepth 100000 in
set_option maxHeartbeats 4000000 in
theorem lost_any (A : Option Addr) (n cap : Nat) (h : List HOp) (w : World) (hr : Rd w w.heap.size 3 A n (cellsH h)) (hm : n ≤ 1000000) (hcap : n ≤ cap) :
    Calls Tryz.prog 108 #[.slice A n cap] w fun e w' => e = .returned (.bool (lostF h)) ∧ Below w.heap.size w w' := by
  have HL := Lib.hid hr.hlen
  have HLF : Hid (lostF h = lostGo h h) := Lib.hid rfl
  generalize lostF h = R at *
  go_enter Tryz.func108, Tryz.ntmps108
  go_wp2
  go_loopw [10] (fun s10 wr => ∃ k : Nat, k ≤ n ∧ s10 = .int .i64 k ∧ Hid (R = lostGo h (h.drop k)) ∧ Below w.heap.size w wr) (fun s10 _ => n - (intOf s10).toNat)
  case atStart => exact ⟨0, Nat.zero_le _, rfl, HLF, Below.refl _ _⟩
  case round =>
    obtain ⟨k, hk, rfl, HE, hbw⟩ := hrel
    by_cases hlt : k < n
    · obtain ⟨b, off, o, he, hb, ho, c0, c1, c2⟩ := (hr.below hbw).op (k := k) (by omega)
      cases he
      have HO : Hid (h.drop k = o :: h.drop (k + 1)) := drop_at ho
      have HE1 : Hid (R = (lostOne h o (h.drop (k + 1)) || lostGo h (h.drop (k + 1)))) := Lib.hid (by rw [HE.out, HO.out, lostGo])
      clear ho
      have hbwa : Below w.heap.size w (wr.alloc (.cells #[.int .i64 o.tx, .int .i64 o.what, .int .i64 o.item] 91)) := hbw.alloc hbw.size _
      have hOa := Blk.new wr 91 [.int .i64 o.tx, .int .i64 o.what, .int .i64 o.item]
      have CC := hide (containsOp_any (some ⟨b, off, none⟩) n cap h ⟨o.tx, 3, 0⟩ (wr.alloc (.cells #[.int .i64 o.tx, .int .i64 o.what, .int .i64 o.item] 91)) ((hr.below hbwa).more hbwa.size) (by omega))
      rw [show decide (0 ≤ idxGo (fun x => decide (x = HOp.mk o.tx 3 0)) 0 h) = commits h o.tx from rfl] at CC
      have HLO : Hid (lostOne h o (h.drop (k + 1)) = (decide (o.what = 1) && commits h o.tx && lostTail o false (h.drop (k + 1)))) := Lib.hid rfl
      generalize commits h o.tx = cm at *
      obtain ⟨tx, what, item⟩ := o
      simp only at c0 c1 c2 hOa CC hbwa
      by_cases hw : what = 1
      · subst hw
        cases cm
        · have HE2 : Hid (R = lostGo h (h.drop (k + 1))) := Lib.hid (by rw [HE1.out, HLO.out]; simp)
          clear HE1 HE HO HLO
          go_wp2_with fail
          refine (unhide CC).mono ?_
          rintro e wb ⟨rfl, hbb⟩
          have hbwb := hbwa.trans (hbb.mono hbwa.size)
          go_wp2
          go_roundw
          case rel => exact ⟨k + 1, by omega, by go_num, HE2, hbwb⟩
          case measure => simp [intOf]; omega
        · have HE2 : Hid (R = (lostTail ⟨tx, 1, item⟩ false (h.drop (k + 1)) || lostGo h (h.drop (k + 1)))) := Lib.hid (by rw [HE1.out, HLO.out]; simp)
          clear HE1 HE HO HLO
          have hk1 : (k : Int) + 1 ≤ n := by omega
          go_wp2_with fail
          refine (unhide CC).mono ?_
          rintro e wb ⟨rfl, hbb⟩
          have hbwb := hbwa.trans (hbb.mono hbwa.size)
          have hOb := hOa.below hbb (by simp)
          clear hbb hOa hbwa
          by_cases hcc : cap = k + 1
          · have HE3 : Hid (R = lostGo h (h.drop (k + 1))) := Lib.hid (by rw [HE2.out, drop_end (l := h) (k := k + 1) (by rw [HL.out]; omega)]; rfl)
            have hnk : n = k + 1 := by omega
            subst hcc
            have HNK := Lib.hid hnk
            clear hnk
            go_wp2
            have hn0 : n - (k + 1) = 0 := by have := HNK.out; omega
            try rw [hn0]
            clear hn0
            go_loop [31] (fun s31 => s31 = .int .i64 0) (fun _ => 0)
            case atStart => rfl
            case round =>
              subst hrel
              go_wp2
              go_roundw
              case rel => exact ⟨k + 1, by omega, by go_num, HE3, hbwb⟩
              case measure => simp [intOf]; omega
          · go_wp2
            clear hcc
            have HM : Hid (n = k + 1 + (n - (k + 1))) := Lib.hid (by omega)
            have hmn : n - (k + 1) ≤ n := Nat.sub_le _ _
            generalize n - (k + 1) = m at *
            generalize hob : wr.heap.size = ob at *
            clear hob
            go_loopw [5, 31] (fun s5 s31 wx => ∃ (j : Nat) (ot : Bool), j ≤ m ∧ s31 = .int .i64 j ∧ s5 = .bool ot ∧ Hid (lostTail ⟨tx, 1, item⟩ false (h.drop (k + 1)) = lostTail ⟨tx, 1, item⟩ ot (h.drop (k + 1 + j))) ∧ Blk wx ob 91 [.int .i64 tx, .int .i64 1, .int .i64 item] ∧ Below w.heap.size w wx) (fun _ s31 _ => m - (intOf s31).toNat)
            case atStart => exact ⟨0, false, Nat.zero_le _, rfl, rfl, rfl, hOb, hbwb⟩
            case round =>
              clear hOb hbwb c0 c1 c2
              obtain ⟨j, ot, hj, rfl, rfl, HT, hOx, hbx⟩ := hrel
              by_cases hjm : j < m
              · obtain ⟨b', off', o2, he, hb2, ho2, d0, d1, d2⟩ := (hr.below hbx).op (k := k + 1 + j) (by have := HM.out; omega)
                cases he
                have HS := Lib.hid (lostTail_step (a := ⟨tx, 1, item⟩) (ot := ot) (drop_at ho2))
                have hadr : off + (k + 1 + j) * 3 = off + (k + 1) * 3 + j * 3 := by omega
                rw [hadr] at d0 d1 d2
                clear ho2 hadr
                have hbxa := hbx.alloc hbx.size (.cells #[.int .i64 o2.tx, .int .i64 o2.what, .int .i64 o2.item] 91)
                have hOxa := hOx.alloc (.cells #[.int .i64 o2.tx, .int .i64 o2.what, .int .i64 o2.item] 91)
                have hPxa := Blk.new wr 91 [.int .i64 o2.tx, .int .i64 o2.what, .int .i64 o2.item]
                have hox := hOx.lt
                obtain ⟨x0, x1, x2⟩ := ocells hOx
                have CA := hide (at_any ⟨tx, 1, item⟩ o2 (wr.alloc (.cells #[.int .i64 o2.tx, .int .i64 o2.what, .int .i64 o2.item] 91)))
                generalize oddB ⟨tx, 1, item⟩ o2 = q at *
                obtain ⟨p1, p2, p3⟩ := o2
                simp only at d0 d1 d2 hbxa hOxa hPxa CA HS
                have hstep : ∀ o' : Bool, (ot || q) = o' → ¬ (o' = true ∧ p1 = tx ∧ p2 = 2 ∧ p3 = item) → Hid (lostTail ⟨tx, 1, item⟩ false (h.drop (k + 1)) = lostTail ⟨tx, 1, item⟩ o' (h.drop (k + 1 + (j + 1)))) := fun o' h1 h2 => Lib.hid (by
                  rw [HT.out, HS.out, h1, if_neg (by rw [Bool.and_eq_true, decide_eq_true_iff]; exact h2)]; rfl)
                have hhit : (ot || q) = true → p1 = tx → p2 = 2 → p3 = item → Hid (R = true) := fun h1 h2 h3 h4 => Lib.hid (by
                  rw [HE2.out, HT.out, HS.out, h1, if_pos (by simp [h2, h3, h4])]; rfl)
                have HSTEP := hide hstep
                have HHIT := hide hhit
                clear hstep hhit HS HT
                go_wp2_with fail
                refine (unhide CA).mono ?_
                rintro e wy ⟨rfl, hby⟩
                have hOy := hOxa.below hby hOxa.lt
                have hPy := hPxa.below hby hPxa.lt
                have hbwy := hbxa.trans (hby.mono hbxa.size)
                obtain ⟨x0, x1, x2⟩ := ocells hOy
                obtain ⟨y0, y1, y2⟩ := ocells hPy
                clear hby hOxa hPxa hbxa CA hOx d0 d1 d2
                by_cases hq : (ot || q) = true
                · have hcs : (ot = true ∧ q = true) ∨ (ot = true ∧ q = false) ∨ (ot = false ∧ q = true) := by cases ot <;> cases q <;> simp at hq ⊢
                  have HQ := Lib.hid hq
                  clear hq
                  by_cases g1 : p1 = tx
                  · by_cases g2 : p2 = 2
                    · by_cases g3 : p3 = item
                      · have HF := unhide HHIT HQ.out g1 g2 g3
                        subst g1 g2 g3
                        clear HSTEP HHIT HQ
                        rcases hcs with ⟨rfl, rfl⟩ | ⟨rfl, rfl⟩ | ⟨rfl, rfl⟩
                        all_goals
                          go_wp2
                          go_ret
                          exact ⟨ret_bool HF.out.symm, hbwy⟩
                      · have HN := unhide HSTEP true HQ.out (fun h => g3 h.2.2.2)
                        have g3b : (p3 == item) = false := by simpa using g3
                        subst g1 g2
                        clear HSTEP HHIT HQ
                        rcases hcs with ⟨rfl, rfl⟩ | ⟨rfl, rfl⟩ | ⟨rfl, rfl⟩
                        all_goals
                          go_wp2
                          go_roundw
                          case rel => exact ⟨j + 1, true, by omega, by go_num, rfl, HN, hOy, hbwy⟩
                          case measure => simp [intOf]; omega
                    · have HN := unhide HSTEP true HQ.out (fun h => g2 h.2.2.1)
                      have g2b : (p2 == 2) = false := by simpa using g2
                      subst g1
                      clear HSTEP HHIT HQ
                      rcases hcs with ⟨rfl, rfl⟩ | ⟨rfl, rfl⟩ | ⟨rfl, rfl⟩
                      all_goals
                        go_wp2
                        go_roundw
                        case rel => exact ⟨j + 1, true, by omega, by go_num, rfl, HN, hOy, hbwy⟩
                        case measure => simp [intOf]; omega
                  · have HN := unhide HSTEP true HQ.out (fun h => g1 h.2.1)
                    have g1b : (p1 == tx) = false := by simpa using g1
                    clear HSTEP HHIT HQ
                    rcases hcs with ⟨rfl, rfl⟩ | ⟨rfl, rfl⟩ | ⟨rfl, rfl⟩
                    all_goals
                      go_wp2
                      go_roundw
                      case rel => exact ⟨j + 1, true, by omega, by go_num, rfl, HN, hOy, hbwy⟩
                      case measure => simp [intOf]; omega
                · have hcs : ot = false ∧ q = false := by cases ot <;> cases q <;> simp at hq ⊢
                  obtain ⟨rfl, rfl⟩ := hcs
                  have HN := unhide HSTEP false rfl (fun h => by cases h.1)
                  clear HSTEP HHIT hq
                  go_wp2
                  go_roundw
                  case rel => exact ⟨j + 1, false, by omega, by go_num, rfl, HN, hOy, hbwy⟩
                  case measure => simp [intOf]; omega
              · have HE3 : Hid (R = lostGo h (h.drop (k + 1))) := Lib.hid (by rw [HE2.out, HT.out, drop_end (l := h) (k := k + 1 + j) (by have := HM.out; rw [HL.out]; omega)]; rfl)
                go_wp2
                go_roundw
                case rel => exact ⟨k + 1, by omega, by go_num, HE3, hbx⟩
                case measure => simp [intOf]; omega
      · have HE2 : Hid (R = lostGo h (h.drop (k + 1))) := Lib.hid (by rw [HE1.out, HLO.out]; simp [hw])
        have hwb : (what != 1) = true := by simpa using hw
        clear HE1 HE HO CC HLO
        go_wp2
        go_roundw
        case rel => exact ⟨k + 1, by omega, by go_num, HE2, hbwa⟩
        case measure => simp [intOf]; omega
    · have HF : Hid (R = false) := Lib.hid (by rw [HE.out, drop_end (by rw [HL.out]; omega)]; rfl)
      go_wp2
      go_ret
      exact ⟨ret_bool HF.out.symm, hbw⟩
end Go.Proofs.YtaaahfbcpgdoiaaGreatDoor


namespace Go.Proofs.YtaaahfbcpgdoiaaGreatDoor
open Go.RowKit

def anyL (p : List HOp → HOp → Bool) (h : List HOp) : Nat → Bool
  | 0 => false
  | k + 1 => anyL p h k || (match h[k]? with | some o => p (h.take k) o | none => false)
theorem anyL_succ {p : List HOp → HOp → Bool} {h : List HOp} {k : Nat} {o : HOp} (ho : h[k]? = some o) : anyL p h (k + 1) = (anyL p h k || p (h.take k) o) := by rw [anyL, ho]
theorem anyL_iff {p : List HOp → HOp → Bool} {h : List HOp} {k : Nat} : anyL p h k = true ↔ ∃ i o, i < k ∧ h[i]? = some o ∧ p (h.take i) o = true := by
  induction k with
  | zero => simp [anyL]
  | succ k ih =>
    rw [anyL, Bool.or_eq_true, ih]
    constructor
    · rintro (⟨i, o, h1, h2⟩ | h1)
      · exact ⟨i, o, by omega, h2⟩
      · cases ho : h[k]? with
        | none => simp [ho] at h1
        | some o => exact ⟨k, o, by omega, ho, by simpa [ho] using h1⟩
    · rintro ⟨i, o, h1, h2, h3⟩
      rcases Nat.lt_or_ge i k with hi | hi
      · exact .inl ⟨i, o, hi, h2, h3⟩
      · obtain rfl : i = k := by omega
        right; simp [h2, h3]
def illsF (h : List HOp) : FacesV := ⟨anyL dwT h h.length, anyL drT h h.length, anyL unT h h.length, lostF h⟩
def illT (pre : List HOp) (o : HOp) : Bool := dwT pre o || drT pre o || unT pre o
def firstGo (p : List HOp → HOp → Bool) (pre : List HOp) (i : Nat) : List HOp → Option Nat
  | [] => none
  | o :: t => if p pre o then some i else firstGo p (pre ++ [o]) (i + 1) t
def firstF (h : List HOp) : Option Nat := firstGo illT [] 0 h
theorem firstGo_none {p : List HOp → HOp → Bool} {l : List HOp} : ∀ {pre : List HOp} {i : Nat}, firstGo p pre i l = none → ∀ j o, l[j]? = some o → p (pre ++ l.take j) o = false := by
  induction l with
  | nil => intro pre i _ j o ho; simp at ho
  | cons x t ih =>
    intro pre i hf j o ho
    unfold firstGo at hf
    split at hf
    · cases hf
    · rename_i hx
      cases j with
      | zero =>
        obtain rfl : x = o := by simpa using ho
        simpa using hx
      | succ j =>
        have := ih hf j o (by simpa using ho)
        simpa using this
theorem firstGo_some {p : List HOp → HOp → Bool} {l : List HOp} : ∀ {pre : List HOp} {i k : Nat}, firstGo p pre i l = some k → ∃ j o, k = i + j ∧ l[j]? = some o ∧ p (pre ++ l.take j) o = true ∧ ∀ j' o', j' < j → l[j']? = some o' → p (pre ++ l.take j') o' = false := by
  induction l with
  | nil => intro pre i k hf; cases hf
  | cons x t ih =>
    intro pre i k hf
    unfold firstGo at hf
    split at hf
    · rename_i hx
      injection hf with hf
      exact ⟨0, x, by omega, rfl, by simpa using hx, by intro j' _ hj; omega⟩
    · rename_i hx
      obtain ⟨j, o, h1, h2, h3, h4⟩ := ih hf
      refine ⟨j + 1, o, by omega, by simpa using h2, by simpa using h3, fun j' o' hj ho => ?_⟩
      cases j' with
      | zero =>
        obtain rfl : x = o' := by simpa using ho
        simpa using hx
      | succ j' =>
        have := h4 j' o' (by omega) (by simpa using ho)
        simpa using this

theorem strict_dirty {o : HOp} (hr : rightB o = true) (pre : List HOp) : strictT pre o = !(dwT pre o || drT pre o) := by
  obtain ⟨_, _, w1, w2, _, _⟩ := rightB_get hr
  unfold strictT dwT drT
  have h4 : o.what = 1 ∨ o.what = 2 ∨ 3 ≤ o.what := by omega
  rcases h4 with h4 | h4 | h4
  · have : endsB o = false := by simp [endsB, h4]
    simp [this, h4]
  · have : endsB o = false := by simp [endsB, h4]
    simp [this, h4]
  · have : endsB o = true := by simp [endsB]; omega
    have a1 : ¬ o.what = 1 := by omega
    have a2 : ¬ o.what = 2 := by omega
    simp [this, a1, a2]
theorem rig_un {o : HOp} (hr : rightB o = true) (pre : List HOp) : rigT pre o = !unT pre o := by
  obtain ⟨_, _, w1, w2, _, _⟩ := rightB_get hr
  unfold rigT unT
  by_cases h4 : 3 ≤ o.what
  · have : endsB o = true := by simp [endsB]; omega
    have a2 : ¬ o.what = 2 := by omega
    simp [this, a2]
  · have : endsB o = false := by simp [endsB]; omega
    simp [this]
theorem scan_any {p q : List HOp → HOp → Bool} {h : List HOp} (hpq : ∀ o ∈ h, ∀ pre, p pre o = !q pre o) (k : Nat) : scanB p [] (h.take k) = !anyL q h k := by
  induction k with
  | zero => rfl
  | succ k ih =>
    cases ho : h[k]? with
    | none =>
      have hge : h.length ≤ k := by rw [List.getElem?_eq_none_iff] at ho; exact ho
      rw [List.take_of_length_le (by omega)]
      rw [List.take_of_length_le hge] at ih
      rw [ih, anyL, ho]; simp
    | some o => rw [take_snocF ho, scanB_snoc, ih, anyL_succ ho, hpq o (List.mem_of_getElem? ho)]; simp
theorem scan_and {p q : List HOp → HOp → Bool} (h : List HOp) : (scanB p [] h && scanB q [] h) = scanB (fun pre o => p pre o && q pre o) [] h := by
  suffices H : ∀ (l pre : List HOp), (scanB p pre l && scanB q pre l) = scanB (fun pre o => p pre o && q pre o) pre l from H h []
  intro l
  induction l with
  | nil => intro pre; rfl
  | cons o t ih =>
    intro pre
    simp only [scanB]
    rw [← ih]
    cases p pre o <;> cases q pre o <;> cases scanB p (pre ++ [o]) t <;> cases scanB q (pre ++ [o]) t <;> rfl
theorem anyL_or {p q : List HOp → HOp → Bool} {h : List HOp} (k : Nat) : anyL (fun pre o => p pre o || q pre o) h k = (anyL p h k || anyL q h k) := by
  induction k with
  | zero => rfl
  | succ k ih =>
    rw [anyL, anyL, anyL, ih]
    cases h[k]? with
    | none => simp
    | some o =>
      simp only
      cases anyL p h k <;> cases anyL q h k <;> cases p (h.take k) o <;> cases q (h.take k) o <;> rfl
theorem strict_eq {h : List HOp} (hk : okH h) (k : Nat) : scanB strictT [] (h.take k) = !(anyL dwT h k || anyL drT h k) := by
  rw [← anyL_or]
  exact scan_any (q := fun pre o => dwT pre o || drT pre o) (fun o ho pre => strict_dirty (okH_right hk o ho) pre) k
theorem rig_eq {h : List HOp} (hk : okH h) (k : Nat) : scanB rigT [] (h.take k) = !anyL unT h k := scan_any (fun o ho pre => rig_un (okH_right hk o ho) pre) k
theorem facesF_rig {h : List HOp} (hk : okH h) (k : Nat) : (facesF (h.take k)).rig = !anyL illT h k := by
  have e : anyL illT h k = (anyL dwT h k || anyL drT h k || anyL unT h k) := by
    rw [show illT = fun pre o => (fun pre o => dwT pre o || drT pre o) pre o || unT pre o from rfl, anyL_or, anyL_or]
  rw [e]
  show (scanB rigT [] (h.take k) && scanB strictT [] (h.take k)) = _
  rw [rig_eq hk, strict_eq hk]
  cases anyL dwT h k <;> cases anyL drT h k <;> cases anyL unT h k <;> rfl

theorem lostGo_some {h l : List HOp} (hl : lostGo h l = true) : ∃ p a t, l = p ++ a :: t ∧ lostOne h a t = true := by
  induction l with
  | nil => cases hl
  | cons a t ih =>
    rw [lostGo, Bool.or_eq_true] at hl
    rcases hl with h1 | h1
    · exact ⟨[], a, t, rfl, h1⟩
    · obtain ⟨p, a', t', h2, h3⟩ := ih h1
      exact ⟨a :: p, a', t', by rw [h2]; rfl, h3⟩
theorem lostTail_some {a : HOp} {t : List HOp} : ∀ {ot : Bool}, lostTail a ot t = true → ∃ p c r, t = p ++ c :: r ∧ c.tx = a.tx ∧ c.what = 2 ∧ c.item = a.item ∧ (ot = true ∨ ∃ b ∈ p, oddB a b = true) := by
  induction t with
  | nil => intro ot hl; cases hl
  | cons b t ih =>
    intro ot hl
    unfold lostTail at hl
    split at hl
    · rename_i h1
      rw [Bool.and_eq_true, decide_eq_true_iff, Bool.or_eq_true] at h1
      refine ⟨[], b, t, rfl, h1.2.1, h1.2.2.1, h1.2.2.2, .inl ?_⟩
      rcases h1.1 with h2 | h2
      · exact h2
      · unfold oddB at h2
        have := of_decide_eq_true h2
        exact absurd h1.2.1.symm this.1
    · obtain ⟨p, c, r, h2, h3, h4, h5, h6⟩ := ih hl
      refine ⟨b :: p, c, r, by rw [h2]; rfl, h3, h4, h5, ?_⟩
      rcases h6 with h6 | ⟨x, hx, h7⟩
      · rw [Bool.or_eq_true] at h6
        rcases h6 with h6 | h6
        · exact .inl h6
        · exact .inr ⟨b, by simp, h6⟩
      · exact .inr ⟨x, by simp [hx], h7⟩
theorem endIn_pre {tx : Int} {p q : List HOp} (h : endIn tx (p ++ q) = false) : endIn tx p = false := by
  unfold endIn at h ⊢
  rw [List.any_append] at h
  cases hp : p.any fun o => decide (o.tx = tx ∧ 3 ≤ o.what)
  · rfl
  · rw [hp] at h; cases h
/-- What is lost was unrepeated. -/
theorem lost_un {h : List HOp} (hk : okH h) (hl : lostF h = true) : anyL unT h h.length = true := by
  obtain ⟨p0, a, t, hh, h1⟩ := lostGo_some hl
  unfold lostOne at h1
  rw [Bool.and_eq_true, Bool.and_eq_true, decide_eq_true_iff] at h1
  obtain ⟨⟨ha1, _⟩, h2⟩ := h1
  obtain ⟨p, c, r, ht, c1, c2, c3, hb⟩ := lostTail_some h2
  rcases hb with hb | ⟨b, hb, ho⟩
  · cases hb
  obtain ⟨q1, q2, hq⟩ := List.append_of_mem hb
  unfold oddB at ho
  have ho := of_decide_eq_true ho
  have hb2 : b.what = 2 := by rcases ho.2.2.2 with h | h; omega; exact h
  rw [anyL_iff]
  have e1 : h = (p0 ++ a :: q1) ++ b :: (q2 ++ c :: r) := by rw [hh, ht, hq]; simp
  have hi : h[(p0 ++ a :: q1).length]? = some b := by rw [e1, List.getElem?_append_right (Nat.le_refl _)]; simp
  have htk : h.take (p0 ++ a :: q1).length = p0 ++ a :: q1 := by rw [e1, List.take_left]
  refine ⟨(p0 ++ a :: q1).length, b, (List.getElem?_eq_some_iff.1 hi).1, hi, ?_⟩
  have hta := okH_tx hk a (by rw [e1]; simp)
  have hend : endIn a.tx (p0 ++ a :: q1) = false := by
    have e2 : h = ((p0 ++ a :: q1) ++ b :: q2) ++ c :: r := by rw [e1]; simp
    have := (okH_after (o := c) (r := r) (a := (p0 ++ a :: q1) ++ b :: q2) (by rw [← e2]; exact hk)).2
    rw [c1] at this
    exact endIn_pre this
  have hge := endedF_get hk (p0 ++ a :: q1).length a.tx hta.1 hta.2
  rw [htk, endGo_zero.2 hend] at hge
  unfold unT
  rw [htk, hb2, Bool.and_eq_true]
  refine ⟨rfl, ?_⟩
  unfold openB
  rw [List.any_eq_true]
  exact ⟨a, by simp, by unfold openT; exact decide_eq_true ⟨ha1, ho.2.1, ho.1, hge⟩⟩
end Go.Proofs.YtaaahfbcpgdoiaaGreatDoor


namespace Go.Proofs.YtaaahfbcpgdoiaaGreatDoor
open Go.RowKit

/-! ### Deals that each read and write one item, one behind the other. -/
theorem pieces_write {a b : Int} : ∀ {q : List Int} {i : Nat} {x : Int}, q[i]? = some x → (piecesH a b q)[i * 3 + 1]? = some ⟨x, 2, b⟩
  | [], i, x, h => by simp at h
  | t :: q, 0, x, h => by
    obtain rfl : t = x := by simpa using h
    rw [piecesH_cons]; rfl
  | t :: q, i + 1, x, h => by
    rw [piecesH_cons, List.getElem?_append_right (by simp; omega)]
    have := pieces_write (a := a) (b := b) (q := q) (i := i) (x := x) (by simpa using h)
    rw [← this]
    congr 1
    simp only [List.length_cons, List.length_nil]
    omega
theorem pieces_orderOf {q : List Int} (h : OrdOk q) : orderOf (piecesH 1 1 q) = some q := by
  have hk := pieces_ok (a := 1) (b := 1) (by omega) (by omega) h
  have hd := pieces_doneL (a := 1) (b := 1) h
  obtain ⟨o, ho⟩ := serial_order (okH_tx hk) h.1 (by rw [hd, along_pieces 1 1 h.1 (fun t ht => ht)]; exact Sw.refl _)
  rw [ho]
  obtain ⟨h1, h2, h3⟩ := orderOf_some ho
  congr 1
  refine pw_ext (r := beforeL o) (fun a ha => before_sym h1 ha ha) (fun a b ha hb => before_sym h1 ha hb) ?_ ?_ fun x => ?_
  · rw [List.pairwise_iff_getElem]
    exact fun i j hi hj hij => ⟨i, j, hij, List.getElem?_eq_getElem hi, List.getElem?_eq_getElem hj⟩
  · rw [List.pairwise_iff_getElem]
    intro i j hi hj hij
    have hne : q[i] ≠ q[j] := fun e => by
      have := idx_inj h.1 (List.getElem?_eq_getElem hi) (by rw [e]; exact List.getElem?_eq_getElem hj)
      omega
    refine h3 (q[i], q[j]) (mem_edgeP.2 ⟨i * 3 + 1, j * 3 + 1, ⟨q[i], 2, 1⟩, ⟨q[j], 2, 1⟩, by omega, ?_, ?_, ?_, rfl, rfl⟩)
    · rw [hd]; exact pieces_write (List.getElem?_eq_getElem hi)
    · rw [hd]; exact pieces_write (List.getElem?_eq_getElem hj)
    · unfold oddB
      rw [decide_eq_true_iff]
      exact ⟨hne, rfl, by simp, by simp⟩
  · rw [h2 x, hd, ← pieces_deals]
/-! ### Whom each reads from tells the order. -/
def srcP (q : List Int) : VS := srcF (piecesH 1 1 q)
theorem srcP_snoc (q : List Int) (x : Int) : srcP (q ++ [x]) = stepS (stepS (stepS (srcP q) ⟨x, 1, 1⟩) ⟨x, 2, 1⟩) ⟨x, 3, 0⟩ := by
  unfold srcP
  rw [piecesH_snoc, show piecesH 1 1 q ++ [(⟨x, 1, 1⟩ : HOp), ⟨x, 2, 1⟩, ⟨x, 3, 0⟩] = ((piecesH 1 1 q ++ [⟨x, 1, 1⟩]) ++ [⟨x, 2, 1⟩]) ++ [⟨x, 3, 0⟩] by simp, srcF_snoc, srcF_snoc, srcF_snoc]
theorem srcP_factsN : ∀ (n : Nat) (q : List Int), q.length = n → ∀ t, t ∉ q → (srcP q).out t = []
  | 0, q, hl, t, _ => by
    obtain rfl := List.eq_nil_of_length_eq_zero hl
    rfl
  | n + 1, q, hl, t, ht => by
    rcases List.eq_nil_or_concat q with rfl | ⟨q', x, rfl⟩
    · rfl
    · rw [List.concat_eq_append] at hl ht ⊢
      simp only [List.mem_append, List.mem_singleton, not_or] at ht
      rw [srcP_snoc]
      simp only [stepS, if_true]
      simp only [show ((2 : Int) = 1) = False by simp, show ((3 : Int) = 1) = False by simp, show ((3 : Int) = 2) = False by simp, if_false]
      rw [upd_other _ ht.2]
      exact srcP_factsN n q' (by simp at hl; omega) t ht.1
theorem srcP_facts (q : List Int) : ∀ t, t ∉ q → (srcP q).out t = [] := srcP_factsN q.length q rfl
theorem srcP_last (q : List Int) (x : Int) : ((srcP (q ++ [x])).last 1).1 = x ∧ (∀ t, t ≠ x → (srcP (q ++ [x])).out t = (srcP q).out t) ∧ (srcP (q ++ [x])).out x = (srcP q).out x ++ [(srcP q).last 1] := by
  rw [srcP_snoc]
  simp only [stepS, if_true]
  simp only [show ((2 : Int) = 1) = False by simp, show ((3 : Int) = 1) = False by simp, show ((3 : Int) = 2) = False by simp, if_false]
  refine ⟨by rw [upd_same], fun t ht => upd_other _ ht _, by rw [upd_same]⟩
theorem srcP_nil : ((srcP []).last 1).1 = 0 := rfl
theorem srcP_inj : ∀ (n : Nat) (q p : List Int), q.length = n → q.Nodup → p.Nodup → (∀ x ∈ q, x ≠ 0) → (∀ x ∈ p, x ≠ 0) → ((srcP q).last 1).1 = ((srcP p).last 1).1 → (∀ t, (srcP q).out t = (srcP p).out t) → q = p := by
  intro n
  induction n with
  | zero =>
    intro q p hl _ _ _ hp h1 _
    obtain rfl := List.eq_nil_of_length_eq_zero hl
    rcases List.eq_nil_or_concat p with rfl | ⟨p', y, rfl⟩
    · rfl
    · exfalso
      rw [List.concat_eq_append] at h1 hp
      rw [srcP_nil, (srcP_last p' y).1] at h1
      exact hp y (by simp) h1.symm
  | succ n ih =>
    intro q p hl hq hp hq0 hp0 h1 h2
    rcases List.eq_nil_or_concat q with rfl | ⟨q', x, rfl⟩
    · simp at hl
    · rw [List.concat_eq_append] at hl hq hq0 h1 h2 ⊢
      rcases List.eq_nil_or_concat p with rfl | ⟨p', y, rfl⟩
      · exfalso
        rw [srcP_nil, (srcP_last q' x).1] at h1
        exact hq0 x (by simp) h1
      · rw [List.concat_eq_append] at hp hp0 h1 h2 ⊢
        obtain ⟨a1, a2, a3⟩ := srcP_last q' x
        obtain ⟨b1, b2, b3⟩ := srcP_last p' y
        rw [a1, b1] at h1
        subst h1
        have hxq : x ∉ q' := fun h => by have := (List.nodup_append.1 hq).2.2 x h x (by simp); exact this rfl
        have hxp : x ∉ p' := fun h => by have := (List.nodup_append.1 hp).2.2 x h x (by simp); exact this rfl
        have hx := h2 x
        rw [a3, b3, srcP_facts q' x hxq, srcP_facts p' x hxp] at hx
        have hx : (srcP q').last 1 = (srcP p').last 1 := by simpa using hx
        have := ih q' p' (by simp at hl; omega) (List.nodup_append.1 hq).1 (List.nodup_append.1 hp).1 (fun t ht => hq0 t (by simp [ht])) (fun t ht => hp0 t (by simp [ht])) (by rw [hx]) (fun t => by
          by_cases ht : t = x
          · subst ht; rw [srcP_facts q' t hxq, srcP_facts p' t hxp]
          · rw [← a2 t ht, ← b2 t ht]; exact h2 t)
        rw [this]
theorem pieces_vOrd {q : List Int} (h : OrdOk q) : vOrd (doneL (piecesH 1 1 q)) = some q := by
  have hk := pieces_ok (a := 1) (b := 1) (by omega) (by omega) h
  have hd := pieces_doneL (a := 1) (b := 1) h
  obtain ⟨p, hp⟩ := order_view hk (pieces_orderOf h)
  rw [hp]
  obtain ⟨h1, h2, h3⟩ := vOrd_some hp
  rw [hd] at h1 h3
  have hm : ∀ t, t ∈ p ↔ t ∈ q := fun t => by rw [h3 t, ← pieces_deals]
  rw [along_pieces 1 1 h.1 (fun t ht => (hm t).1 ht)] at h1
  obtain ⟨g1, g2, g3⟩ := viewB_iff.1 h1
  have hlast : ((srcP q).last 1).1 = ((srcP p).last 1).1 := by
    unfold lastL at g2
    simp only [List.map_cons, List.map_nil, List.cons.injEq] at g2
    exact g2.1
  congr 1
  refine (srcP_inj _ q p rfl h.1 h2 (fun x hx => by have := h.2 x hx; omega) (fun x hx => by have := h.2 x ((hm x).1 hx); omega) hlast fun t => ?_).symm
  by_cases ht : 0 ≤ t ∧ t ≤ 6
  · exact g3 t ht.1 ht.2
  · have hq : t ∉ q := fun hx => by have := h.2 t hx; omega
    rw [srcP_facts q t hq, srcP_facts p t (fun hx => hq ((hm t).1 hx))]
theorem pieces_faces {q : List Int} (hq : OrdOk q) : facesF (piecesH 1 1 q) = ⟨true, true, true, true⟩ := by
  have hk := pieces_ok (a := 1) (b := 1) (by omega) (by omega) hq
  have key : ∀ i o, (piecesH 1 1 q)[i]? = some o → ∀ what, openB ((piecesH 1 1 q).take i) o what = false := by
    intro i o ho what
    rw [← ropen_eq hk i o what, List.any_eq_false]
    intro x hx
    unfold ropenT
    simp only [decide_eq_true_eq]
    rintro ⟨_, _, hne, h0⟩
    exact endGo_in.2 (pieces_ended ho x hx hne) h0
  have n4 : ∀ i o, (piecesH 1 1 q)[i]? = some o → illT ((piecesH 1 1 q).take i) o = false := fun i o ho => by
    unfold illT dwT drT unT
    rw [key i o ho, key i o ho]; simp
  have hno : anyL illT (piecesH 1 1 q) (piecesH 1 1 q).length = false := by
    cases ha : anyL illT (piecesH 1 1 q) (piecesH 1 1 q).length with
    | false => rfl
    | true =>
      obtain ⟨i, o, _, h1, h2⟩ := anyL_iff.1 ha
      rw [n4 i o h1] at h2; cases h2
  have hr := facesF_rig hk (piecesH 1 1 q).length
  rw [List.take_length, hno] at hr
  have hr : (facesF (piecesH 1 1 q)).rig = true := hr
  have h2 : scanB rigT [] (piecesH 1 1 q) = true ∧ scanB strictT [] (piecesH 1 1 q) = true := by
    have : (scanB rigT [] (piecesH 1 1 q) && scanB strictT [] (piecesH 1 1 q)) = true := hr
    simpa using this
  have h3 := strict_caut hk h2.2
  have h4 := caut_rec hk h3
  unfold facesF
  rw [h2.1, h2.2, h3, h4]; rfl
end Go.Proofs.YtaaahfbcpgdoiaaGreatDoor
