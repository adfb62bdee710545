
/-
  CONTRACTS of laneref1.when, From, Open where the ops are right: as the program's own.
-/
import Derived.Test.YtoboecppilmnnaaDoorRFacesP
import Derived.Test.YtoboecppilmnnaaDoorRef
namespace Go.Proofs.YtoboecppilmnnaaDoor
open Go.RowKit

set_option maxHeartbeats 1000000 in
theorem rwhen_any (A : Option Addr) (n cap : Nat) (h : List HOp) (tx : Int) (w : World) (B : Nat) (hr : Rd w B 3 A n (cellsH h)) (hok : okH h) :
    Calls Tryd.prog 55 #[.slice A n cap, .int .i64 tx] w fun e w' => e = .returned (.int .i64 (idxGo (fun o => decide (o = HOp.mk tx 3 0)) 0 h)) ∧ w = w' := by
  have hl := hr.hlen
  have hm := okH_len hok
  rw [← when_eq hok]
  have HL := Lib.hid hl
  have hn : n ≤ 40 := by omega
  clear hl hok hm
  go_enter Tryd.func55, Tryd.ntmps55
  go_wp2
  go_loop [5] (fun i => ∃ k : Nat, k ≤ n ∧ i = .int .i64 k ∧ Hid (idxGo (whenT tx) 0 h = idxGo (whenT tx) k (h.drop k))) (fun i => n - (intOf i).toNat)
  case atStart => exact ⟨0, Nat.zero_le _, rfl, rfl⟩
  case round =>
    obtain ⟨k, hk, rfl, HE⟩ := hrel
    by_cases hlt : k < n
    · obtain ⟨b, off, o, he, hb, ho, c0, c1, c2⟩ := hr.op (k := k) hlt
      cases he
      have HO : Hid (h.drop k = o :: h.drop (k + 1)) := drop_at ho
      clear ho
      obtain ⟨p1, p2, p3⟩ := o
      by_cases h1 : p1 = tx
      · by_cases h2 : p2 = 3
        · have HF : Hid (idxGo (whenT tx) 0 h = k) := Lib.hid (by rw [HE.out, HO.out]; simp [idxGo, whenT, h1, h2])
          subst h1 h2
          go_wp2
          go_ret
          exact ⟨ret_int HF.out.symm, rfl⟩
        · have HF : Hid (idxGo (whenT tx) 0 h = idxGo (whenT tx) (k + 1 : Nat) (h.drop (k + 1))) := Lib.hid (by rw [HE.out, HO.out]; simp [idxGo, whenT, h2])
          have h2b : (p2 == 3) = false := by simpa using h2
          subst h1
          go_wp2
          go_round
          case rel => exact ⟨k + 1, by omega, by go_num, HF⟩
          case measure => simp [intOf]; omega
      · have HF : Hid (idxGo (whenT tx) 0 h = idxGo (whenT tx) (k + 1 : Nat) (h.drop (k + 1))) := Lib.hid (by rw [HE.out, HO.out]; simp [idxGo, whenT, h1])
        have h1b : (p1 == tx) = false := by simpa using h1
        go_wp2
        go_round
        case rel => exact ⟨k + 1, by omega, by go_num, HF⟩
        case measure => simp [intOf]; omega
    · have HF : Hid (idxGo (whenT tx) 0 h = -1) := Lib.hid (by rw [HE.out, drop_end (by rw [HL.out]; omega)]; rfl)
      go_wp2
      go_ret
      exact ⟨ret_int HF.out.symm, rfl⟩

theorem Rd.drewN {w : World} {B size n : Nat} {A : Option Addr} {xs : List Value} (h : Rd w B size A n xs) (m : Nat) : Rd (w.drewN m) B size A n xs := h
theorem end_quiet (A : Option Addr) (n cap : Nat) (h : List HOp) (tx : Int) (k0 : Nat) (w : World) (B : Nat) (hr : Rd w B 3 A n (cellsH h)) (hat : k0 ≤ n) (hm : n ≤ 1000000000) :
    Calls Tryd.prog 14 #[.slice A n cap, .int .i64 tx, .int .i64 k0] w fun e w' => e = .returned (.int .i64 (endGo tx (h.take k0))) ∧ w' = w :=
  (end_any A n cap h tx k0 w B hr hat hm).mono fun _ _ ⟨h1, h2⟩ => ⟨h1, h2.symm⟩

set_option maxHeartbeats 4000000 in
theorem rfrom_any (A : Option Addr) (n cap : Nat) (h : List HOp) (i : Nat) (x : HOp) (w : World) (hr : Rd w w.heap.size 3 A n (cellsH h)) (hx : h[i]? = some x) (hok : okH h) :
    Calls Tryd.prog 35 #[.slice A n cap, .int .i64 i] w fun e w' => e = .returned (.int .i64 (fromB (h.take i) x)) ∧ Below w.heap.size w w' := by
  have hl := hr.hlen
  have hm := okH_len hok
  have hin : i < n := by rw [← hl]; exact (List.getElem?_eq_some_iff.1 hx).1
  rw [← rfrom_eq hok]
  have HL := Lib.hid hl
  have hn : n ≤ 40 := by omega
  have HX := Lib.hid hx
  clear hl hok hm hx
  go_enter Tryd.func35, Tryd.ntmps35
  go_wp2
  go_loopw [5, 6] (fun s5 s6 wr => ∃ k : Nat, k ≤ i ∧ s6 = .int .i64 k ∧ s5 = .int .i64 (lastTx (rfromT (h.take i) x) 0 (h.take k)) ∧ Below w.heap.size w wr) (fun _ s6 _ => i - (intOf s6).toNat)
  case atStart => exact ⟨0, Nat.zero_le _, rfl, rfl, Below.refl _ _⟩
  case round =>
    obtain ⟨k, hk, rfl, rfl, hbw⟩ := hrel
    by_cases hlt : k < i
    · have hkn : k < n := by omega
      obtain ⟨b, off, o, he, hb, ho, c0, c1, c2⟩ := (hr.below hbw).op (k := k) (by omega)
      cases he
      obtain ⟨b', off', x', he, hb', hx', d0, d1, d2⟩ := (hr.below hbw).op (k := i) hin
      cases he
      obtain rfl : x = x' := by have := HX.out; rw [hx'] at this; exact (Option.some.inj this).symm
      have HS : Hid (lastTx (rfromT (h.take i) x) 0 (h.take (k + 1)) = if rfromT (h.take i) x o then o.tx else lastTx (rfromT (h.take i) x) 0 (h.take k)) := Lib.hid (by rw [take_snoc ho, lastTx_snoc])
      have hre := (hr.below hbw).more hbw.size
      clear hx' ho
      generalize lastTx (rfromT (h.take i) x) 0 (h.take k) = acc at *
      have HX2 : Hid (∀ y, rfromT (h.take i) x y = decide (y.what = 2 ∧ y.item = x.item ∧ endGo y.tx (h.take i) ≠ 4)) := Lib.hid fun _ => rfl
      generalize rfromT (h.take i) x = T at *
      obtain ⟨p1, p2, p3⟩ := o
      obtain ⟨q1, q2, q3⟩ := x
      by_cases h1 : p2 = 2
      · subst h1
        by_cases h2 : p3 = q3
        · subst h2
          have CE := hide (fun m => end_quiet (some ⟨b, off, none⟩) n cap h p1 i (wr.drewN m) _ (Rd.drewN hre m) (by omega) (by omega))
          by_cases h3 : endGo p1 (h.take i) = 4
          · have HS2 : Hid (lastTx T 0 (h.take (k + 1)) = acc) := Lib.hid (by rw [HS.out, HX2.out]; simp [h3])
            rw [h3] at CE
            clear h3 HS HX2
            go_wp2
            go_quiet ((go_at_call 14; exact Calls.quiet_of_same (unhide CE _)))
            go_wp2
            go_roundw
            case rel => exact ⟨k + 1, by omega, by go_num, by rw [HS2.out], below_drewN hbw _⟩
            case measure => simp [intOf]; omega
          · have HS2 : Hid (lastTx T 0 (h.take (k + 1)) = p1) := Lib.hid (by rw [HS.out, HX2.out]; simp [h3])
            have h3b : (endGo p1 (h.take i) != 4) = true := by simpa using h3
            generalize endGo p1 (h.take i) = ev at *
            clear h3 HS HX2
            go_wp2
            go_quiet ((go_at_call 14; exact Calls.quiet_of_same (unhide CE _)))
            go_wp2
            go_roundw
            case rel => exact ⟨k + 1, by omega, by go_num, by rw [HS2.out], below_drewN hbw _⟩
            case measure => simp [intOf]; omega
        · have HS2 : Hid (lastTx T 0 (h.take (k + 1)) = acc) := Lib.hid (by rw [HS.out, HX2.out]; simp [h2])
          have h2b : (p3 == q3) = false := by simpa using h2
          clear HS HX2
          go_wp2
          go_quiet (fail)
          go_wp2
          go_roundw
          case rel => exact ⟨k + 1, by omega, by go_num, by rw [HS2.out], below_drewN hbw _⟩
          case measure => simp [intOf]; omega
      · have HS2 : Hid (lastTx T 0 (h.take (k + 1)) = acc) := Lib.hid (by rw [HS.out, HX2.out]; simp [h1])
        have h1b : (p2 == 2) = false := by simpa using h1
        clear HS HX2
        go_wp2
        go_quiet (fail)
        go_wp2
        go_roundw
        case rel => exact ⟨k + 1, by omega, by go_num, by rw [HS2.out], below_drewN hbw _⟩
        case measure => simp [intOf]; omega
    · obtain rfl : k = i := by omega
      go_wp2
      go_ret
      exact ⟨rfl, hbw⟩

set_option maxHeartbeats 4000000 in
theorem ropen_any (A : Option Addr) (n cap : Nat) (h : List HOp) (i : Nat) (x : HOp) (what : Int) (w : World) (hr : Rd w w.heap.size 3 A n (cellsH h)) (hx : h[i]? = some x) (hok : okH h) :
    Calls Tryd.prog 52 #[.slice A n cap, .int .i64 i, .int .i64 what] w fun e w' => e = .returned (.bool (openB (h.take i) x what)) ∧ Below w.heap.size w w' := by
  have hl := hr.hlen
  have hm := okH_len hok
  have hin : i < n := by rw [← hl]; exact (List.getElem?_eq_some_iff.1 hx).1
  have HEQ := Lib.hid (ropen_eq hok i x what)
  have HL := Lib.hid hl
  have HLT : Hid ((h.take i).length = i) := Lib.hid (by rw [List.length_take]; omega)
  have hn : n ≤ 40 := by omega
  have HX := Lib.hid hx
  have HX2 : Hid (∀ y, ropenT (h.take i) x what y = decide (y.what = what ∧ y.item = x.item ∧ y.tx ≠ x.tx ∧ endGo y.tx (h.take i) = 0)) := Lib.hid fun _ => rfl
  clear hl hok hm hx
  generalize openB (h.take i) x what = R at *
  generalize ropenT (h.take i) x what = T at *
  go_enter Tryd.func52, Tryd.ntmps52
  go_wp2
  go_loopw [7] (fun s7 wr => ∃ k : Nat, k ≤ i ∧ s7 = .int .i64 k ∧ Hid (R = ((h.take i).drop k).any T) ∧ Below w.heap.size w wr) (fun s7 _ => i - (intOf s7).toNat)
  case atStart => exact ⟨0, Nat.zero_le _, rfl, Lib.hid (by rw [List.drop_zero]; exact HEQ.out.symm), Below.refl _ _⟩
  case round =>
    obtain ⟨k, hk, rfl, HE, hbw⟩ := hrel
    by_cases hlt : k < i
    · have hkn : k < n := by omega
      obtain ⟨b, off, o, he, hb, ho, c0, c1, c2⟩ := (hr.below hbw).op (k := k) (by omega)
      cases he
      obtain ⟨b', off', x', he, hb', hx', d0, d1, d2⟩ := (hr.below hbw).op (k := i) hin
      cases he
      obtain rfl : x = x' := by have := HX.out; rw [hx'] at this; exact (Option.some.inj this).symm
      have HO : Hid ((h.take i).drop k = o :: (h.take i).drop (k + 1)) := drop_at (by rw [List.getElem?_take, if_pos hlt]; exact ho)
      have hre := (hr.below hbw).more hbw.size
      clear hx' ho
      obtain ⟨p1, p2, p3⟩ := o
      obtain ⟨q1, q2, q3⟩ := x
      by_cases h1 : p2 = what
      · by_cases h2 : p3 = q3
        · by_cases h3 : p1 = q1
          · have HE2 : Hid (R = ((h.take i).drop (k + 1)).any T) := Lib.hid (by rw [HE.out, HO.out, List.any_cons, HX2.out]; simp [h3])
            subst h1 h2 h3
            have hc3 : (p1 != p1) = false := by simp
            go_wp2
            go_quiet (fail)
            go_wp2
            go_roundw
            case rel => exact ⟨k + 1, by omega, by go_num, HE2, below_drewN hbw _⟩
            case measure => simp [intOf]; omega
          · have CE := hide (fun m => end_quiet (some ⟨b, off, none⟩) n cap h p1 i (wr.drewN m) _ (Rd.drewN hre m) (by omega) (by omega))
            have h3b : (p1 != q1) = true := by simpa using h3
            by_cases h4 : endGo p1 (h.take i) = 0
            · have HF : Hid (R = true) := Lib.hid (by rw [HE.out, HO.out, List.any_cons, HX2.out]; simp [h1, h2, h3, h4])
              rw [h4] at CE
              clear h4
              subst h1 h2
              go_wp2
              go_quiet ((go_at_call 14; exact Calls.quiet_of_same (unhide CE _)))
              go_wp2
              go_ret
              exact ⟨ret_bool HF.out.symm, below_drewN hbw _⟩
            · have HE2 : Hid (R = ((h.take i).drop (k + 1)).any T) := Lib.hid (by rw [HE.out, HO.out, List.any_cons, HX2.out]; simp [h4])
              have h4b : (endGo p1 (h.take i) == 0) = false := by simpa using h4
              generalize endGo p1 (h.take i) = ev at *
              clear h4
              subst h1 h2
              go_wp2
              go_quiet ((go_at_call 14; exact Calls.quiet_of_same (unhide CE _)))
              go_wp2
              go_roundw
              case rel => exact ⟨k + 1, by omega, by go_num, HE2, below_drewN hbw _⟩
              case measure => simp [intOf]; omega
        · have HE2 : Hid (R = ((h.take i).drop (k + 1)).any T) := Lib.hid (by rw [HE.out, HO.out, List.any_cons, HX2.out]; simp [h2])
          have h2b : (p3 == q3) = false := by simpa using h2
          subst h1
          go_wp2
          go_quiet (fail)
          go_wp2
          go_roundw
          case rel => exact ⟨k + 1, by omega, by go_num, HE2, below_drewN hbw _⟩
          case measure => simp [intOf]; omega
      · have HE2 : Hid (R = ((h.take i).drop (k + 1)).any T) := Lib.hid (by rw [HE.out, HO.out, List.any_cons, HX2.out]; simp [h1])
        have h1b : (p2 == what) = false := by simpa using h1
        go_wp2
        go_quiet (fail)
        go_wp2
        go_roundw
        case rel => exact ⟨k + 1, by omega, by go_num, HE2, below_drewN hbw _⟩
        case measure => simp [intOf]; omega
    · have HF : Hid (R = false) := Lib.hid (by rw [HE.out, drop_end (by rw [HLT.out]; omega)]; rfl)
      go_wp2
      go_ret
      exact ⟨ret_bool HF.out.symm, hbw⟩
end Go.Proofs.YtoboecppilmnnaaDoor
