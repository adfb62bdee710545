
/-
  CONTRACTS of ills.Of, First.
-/
import Derived.Test.YtoboecppilmnnaaDoorIllsP
namespace Go.Proofs.YtoboecppilmnnaaDoor
open Go.RowKit

def firstI (h : List HOp) : Int := match firstF h with | some k => (k : Int) | none => 0
def firstE (h : List HOp) : Int := match firstF h with | some _ => 0 | none => 5

set_option maxRecDepth 100000 in
set_option maxHeartbeats 4000000 in
theorem illsOf_ok (A : Option Addr) (n cap : Nat) (h : List HOp) (w : World) (hr : Rd w w.heap.size 3 A n (cellsH h)) (hcap : n ≤ cap) (hok : okH h) :
    Calls Tryd.prog 32 #[.slice A n cap] w fun e w' => e = .returned (.tuple #[(illsF h).val, .nilIface]) ∧ Below w.heap.size w w' := by
  have hm : n ≤ 40 := by rw [← hr.hlen]; exact okH_len hok
  have HL := Lib.hid hr.hlen
  have HR := hide (fun w1 (hb : Below w.heap.size w w1) => by
    have := right_h A n cap h w1 ((hr.below hb).more hb.size) (by omega)
    rw [show (checkF h).2 = 0 from hok, errV_zero] at this
    exact this)
  have C0 := hide (fun w1 (hb : Below w.heap.size w w1) => lost_any A n cap h w1 ((hr.below hb).more hb.size) (by omega) hcap)
  have C1 := hide (fun w1 k o (ho : h[k]? = some o) (hb : Below w.heap.size w w1) => ills1_any A n cap h k o w1 ((hr.below hb).more hb.size) (by omega) hcap ho hok)
  clear hok
  have HRF : Hid (illsF h = ⟨anyL dwT h h.length, anyL drT h h.length, anyL unT h h.length, lostF h⟩) := Lib.hid rfl
  generalize lostF h = L at *
  go_enter Tryd.func32, Tryd.ntmps32
  have hb0 : Below w.heap.size w (w.alloc (.cells #[.bool false, .bool false, .bool false, .bool false] 67)) := (Below.refl _ _).alloc (Nat.le_refl _) _
  have HB0 := hide hb0
  clear hb0
  go_wp2_with fail
  refine (unhide HR _ (unhide HB0)).mono ?_
  rintro e w0 ⟨rfl, hb00⟩
  have hZ0 := (Blk.new w 67 [.bool false, .bool false, .bool false, .bool false]).below hb00 (by simp)
  have hbw0 := (unhide HB0).trans (hb00.mono (unhide HB0).size)
  clear hb00 HB0
  go_wp2_with fail
  refine (unhide C0 _ hbw0).mono ?_
  rintro e w1 ⟨rfl, hb1⟩
  have hZ1 := hZ0.below hb1 hZ0.lt
  have hbw1 := hbw0.trans (hb1.mono hbw0.size)
  have hzg : w.heap.size < w1.heap.size := hZ1.lt
  clear hb1 hZ0 hbw0 C0 HR
  go_wp2_with fail
  go_loopw [21] (fun i wr => ∃ (k : Nat) (dw dr un : Bool), k ≤ n ∧ i = .int .i64 k ∧ Hid (anyL dwT h k = dw ∧ anyL drT h k = dr ∧ anyL unT h k = un) ∧
      Blk wr w1.heap.size 67 [.bool dw, .bool dr, .bool un, .bool L] ∧ Blk wr w.heap.size 67 [.bool false, .bool false, .bool false, .bool false] ∧ Below w.heap.size w wr) (fun i _ => n - (intOf i).toNat)
  case atStart => exact ⟨0, false, false, false, Nat.zero_le _, rfl, ⟨rfl, rfl, rfl⟩, Blk.new w1 67 [.bool false, .bool false, .bool false, .bool L], hZ1.alloc _, hbw1.alloc hbw1.size _⟩
  case round =>
    clear hZ1 hbw1
    obtain ⟨k, dw, dr, un, hk, rfl, HC, hF, hZ, hbw⟩ := hrel
    have hFlt := hF.lt
    by_cases hlt : k < n
    · obtain ⟨o, ho⟩ : ∃ o, h[k]? = some o := ⟨_, List.getElem?_eq_getElem (by rw [HL.out]; omega)⟩
      have CI := hide (unhide C1 wr k o ho hbw)
      have HN : Hid (anyL dwT h (k + 1) = (dw || dwT (h.take k) o) ∧ anyL drT h (k + 1) = (dr || drT (h.take k) o) ∧ anyL unT h (k + 1) = (un || unT (h.take k) o)) := Lib.hid ⟨by rw [anyL_succ ho, HC.out.1], by rw [anyL_succ ho, HC.out.2.1], by rw [anyL_succ ho, HC.out.2.2]⟩
      generalize dwT (h.take k) o = a at *
      generalize drT (h.take k) o = b at *
      generalize unT (h.take k) o = c at *
      clear ho HC
      go_wp2_with fail
      refine (unhide CI).mono ?_
      rintro e w2 ⟨rfl, hb2⟩
      have hF2 := hF.below hb2 hFlt
      have hZ2 := hZ.below hb2 hZ.lt
      have hbw2 := hbw.trans (hb2.mono hbw.size)
      obtain ⟨y0, y1, y2, y3, z0, z1, z2, z3⟩ := fcells hF2
      have hne : w.heap.size ≠ w1.heap.size := Nat.ne_of_lt hzg
      have hle : w.heap.size ≤ w1.heap.size := Nat.le_of_lt hzg
      clear hb2 hF hZ hbw CI
      cases dw <;> cases dr <;> cases un
      all_goals
        go_wp2
        go_roundw
        case rel => exact ⟨k + 1, _, _, _, by omega, by go_num, HN, ((hF2.put 0 _).put 1 _).put 2 _, ((hZ2.far (p := ⟨w1.heap.size, 0, none⟩) hne _).far (p := ⟨w1.heap.size, 1, none⟩) hne _).far (p := ⟨w1.heap.size, 2, none⟩) hne _, ((hbw2.setCell (p := ⟨w1.heap.size, 0, none⟩) hle _).setCell (p := ⟨w1.heap.size, 1, none⟩) hle _).setCell (p := ⟨w1.heap.size, 2, none⟩) hle _⟩
        case measure => simp [intOf]; omega
    · have hkn : k = n := by omega
      have HF : Hid (illsF h = ⟨dw, dr, un, L⟩) := Lib.hid (by
        have h1 := HC.out
        rw [HRF.out, HL.out, ← hkn, h1.1, h1.2.1, h1.2.2])
      obtain ⟨y0, y1, y2, y3, z0, z1, z2, z3⟩ := fcells hF
      obtain ⟨v0, v1, v2, v3, u0, u1, u2, u3⟩ := fcells hZ
      clear HC hkn
      have hR := (((hZ.put 0 (.bool dw)).put 1 (.bool dr)).put 2 (.bool un)).put 3 (.bool L)
      obtain ⟨r0, r1, r2, r3, _⟩ := fcells (a := dw) (b := dr) (c := un) (d := L) hR
      go_wp2
      refine bodyPost_ret (v := .tuple #[.agg #[.bool dw, .bool dr, .bool un, .bool L], .nilIface]) (by simp [results, Tryd.results32, go_sem, r0, r1, r2, r3]) rfl ?_
      exact ⟨by rw [HF.out]; rfl, (((hbw.setCell (p := ⟨w.heap.size, 0, none⟩) (Nat.le_refl _) _).setCell (p := ⟨w.heap.size, 1, none⟩) (Nat.le_refl _) _).setCell (p := ⟨w.heap.size, 2, none⟩) (Nat.le_refl _) _).setCell (p := ⟨w.heap.size, 3, none⟩) (Nat.le_refl _) _⟩

set_option maxHeartbeats 1000000 in
theorem illsOf_no (A : Option Addr) (n cap : Nat) (h : List HOp) (w : World) (hr : Rd w w.heap.size 3 A n (cellsH h)) (hm : n ≤ 6000000000000) (hno : ¬ okH h) :
    Calls Tryd.prog 32 #[.slice A n cap] w fun e w' => e = .returned (.tuple #[.agg #[.bool false, .bool false, .bool false, .bool false], errV (checkF h).2]) ∧ Below w.heap.size w w' := by
  have HR := hide (fun w1 (hb : Below w.heap.size w w1) => right_h A n cap h w1 ((hr.below hb).more hb.size) hm)
  rw [ne_errV (show (checkF h).2 ≠ 0 from hno)] at HR ⊢
  generalize (checkF h).2 = ev at *
  clear hno
  go_enter Tryd.func32, Tryd.ntmps32
  have hb0 : Below w.heap.size w (w.alloc (.cells #[.bool false, .bool false, .bool false, .bool false] 67)) := (Below.refl _ _).alloc (Nat.le_refl _) _
  have HB0 := hide hb0
  clear hb0
  go_wp2_with fail
  refine (unhide HR _ (unhide HB0)).mono ?_
  rintro e w0 ⟨rfl, hb00⟩
  have hZ0 := (Blk.new w 67 [.bool false, .bool false, .bool false, .bool false]).below hb00 (by simp)
  have hbw0 := (unhide HB0).trans (hb00.mono (unhide HB0).size)
  clear hb00 HB0 HR
  obtain ⟨v0, v1, v2, v3, u0, u1, u2, u3⟩ := fcells hZ0
  have hR := (((hZ0.put 0 (.bool false)).put 1 (.bool false)).put 2 (.bool false)).put 3 (.bool false)
  obtain ⟨r0, r1, r2, r3, _⟩ := fcells (a := false) (b := false) (c := false) (d := false) hR
  go_wp2
  refine bodyPost_ret (v := .tuple #[.agg #[.bool false, .bool false, .bool false, .bool false], .iface 86 (.int .i64 ev)]) (by simp [results, Tryd.results32, go_sem, r0, r1, r2, r3]) rfl ?_
  exact ⟨rfl, (((hbw0.setCell (p := ⟨w.heap.size, 0, none⟩) (Nat.le_refl _) _).setCell (p := ⟨w.heap.size, 1, none⟩) (Nat.le_refl _) _).setCell (p := ⟨w.heap.size, 2, none⟩) (Nat.le_refl _) _).setCell (p := ⟨w.heap.size, 3, none⟩) (Nat.le_refl _) _⟩

set_option maxRecDepth 100000 in
set_option maxHeartbeats 4000000 in
theorem illsFirst_ok (A : Option Addr) (n cap : Nat) (h : List HOp) (w : World) (hr : Rd w w.heap.size 3 A n (cellsH h)) (hcap : n ≤ cap) (hok : okH h) :
    Calls Tryd.prog 33 #[.slice A n cap] w fun e w' => e = .returned (.tuple #[.int .i64 (firstI h), errV (firstE h)]) ∧ Below w.heap.size w w' := by
  have hm : n ≤ 40 := by rw [← hr.hlen]; exact okH_len hok
  have HL := Lib.hid hr.hlen
  have HR := hide (by
    have := right_h A n cap h w hr (by omega)
    rw [show (checkF h).2 = 0 from hok, errV_zero] at this
    exact this)
  have C1 := hide (fun w1 k o (ho : h[k]? = some o) (hb : Below w.heap.size w w1) => ills1_any A n cap h k o w1 ((hr.below hb).more hb.size) (by omega) hcap ho hok)
  clear hok
  have HRF : Hid (∀ x, firstF h = x → (firstI h = match x with | some k => (k : Int) | none => 0) ∧ (firstE h = match x with | some _ => 0 | none => 5)) := Lib.hid (fun x hx => by subst hx; exact ⟨rfl, rfl⟩)
  have HFF : Hid (firstF h = firstGo illT [] 0 h) := Lib.hid rfl
  generalize firstI h = FI at *
  generalize firstE h = FE at *
  generalize firstF h = FF at *
  go_enter Tryd.func33, Tryd.ntmps33
  go_wp2_with fail
  refine (unhide HR).mono ?_
  rintro e w0 ⟨rfl, hb0⟩
  go_wp2_with fail
  go_loopw [16] (fun i wr => ∃ (k : Nat), k ≤ n ∧ i = .int .i64 k ∧ Hid (FF = firstGo illT (h.take k) k (h.drop k)) ∧ Below w.heap.size w wr) (fun i _ => n - (intOf i).toNat)
  case atStart => exact ⟨0, Nat.zero_le _, rfl, HFF, hb0⟩
  case round =>
    clear hb0
    obtain ⟨k, hk, rfl, HC, hbw⟩ := hrel
    by_cases hlt : k < n
    · obtain ⟨o, ho⟩ : ∃ o, h[k]? = some o := ⟨_, List.getElem?_eq_getElem (by rw [HL.out]; omega)⟩
      have CI := hide (unhide C1 wr k o ho hbw)
      have HN : Hid (FF = if (dwT (h.take k) o || drT (h.take k) o || unT (h.take k) o) = true then some k else firstGo illT (h.take (k + 1)) (k + 1) (h.drop (k + 1))) := Lib.hid (by rw [HC.out, drop_at ho, firstGo, take_snoc ho]; rfl)
      generalize dwT (h.take k) o = a at *
      generalize drT (h.take k) o = b at *
      generalize unT (h.take k) o = c at *
      clear ho HC
      go_wp2_with fail
      refine (unhide CI).mono ?_
      rintro e w2 ⟨rfl, hb2⟩
      have hbw2 := hbw.trans (hb2.mono hbw.size)
      clear hb2 hbw CI
      by_cases hill : (a || b || c) = true
      · have hcs : a = true ∨ (a = false ∧ b = true) ∨ (a = false ∧ b = false ∧ c = true) := by cases a <;> cases b <;> cases c <;> simp at hill ⊢
        have HF : Hid (FI = (k : Int) ∧ FE = 0) := Lib.hid (HRF.out (some k) (by rw [HN.out, if_pos hill]))
        clear hill HN
        rcases hcs with rfl | ⟨rfl, rfl⟩ | ⟨rfl, rfl, rfl⟩
        all_goals
          go_wp2
          go_ret2
          exact ⟨by rw [HF.out.1, HF.out.2]; rfl, hbw2⟩
      · have hcs : a = false ∧ b = false ∧ c = false := by cases a <;> cases b <;> cases c <;> simp at hill ⊢
        have HN2 : Hid (FF = firstGo illT (h.take (k + 1)) (k + 1) (h.drop (k + 1))) := Lib.hid (by rw [HN.out, if_neg hill])
        obtain ⟨rfl, rfl, rfl⟩ := hcs
        clear hill HN
        go_wp2
        go_roundw
        case rel => exact ⟨k + 1, by omega, by go_num, HN2, hbw2⟩
        case measure => simp [intOf]; omega
    · have HF : Hid (FI = 0 ∧ FE = 5) := Lib.hid (HRF.out none (by rw [HC.out, drop_end (by rw [HL.out]; omega)]; rfl))
      go_wp2
      go_ret2
      exact ⟨by rw [HF.out.1, HF.out.2]; rfl, hbw⟩

set_option maxHeartbeats 400000 in
theorem illsFirst_no (A : Option Addr) (n cap : Nat) (h : List HOp) (w : World) (hr : Rd w w.heap.size 3 A n (cellsH h)) (hm : n ≤ 6000000000000) (hno : ¬ okH h) :
    Calls Tryd.prog 33 #[.slice A n cap] w fun e w' => e = .returned (.tuple #[.int .i64 0, errV (checkF h).2]) ∧ Below w.heap.size w w' := by
  have C := right_h A n cap h w hr hm
  rw [ne_errV (show (checkF h).2 ≠ 0 from hno)] at C ⊢
  generalize (checkF h).2 = ev at *
  have HC := hide C
  clear C hno
  go_enter Tryd.func33, Tryd.ntmps33
  go_wp2_with (go_at_call 45; refine (unhide HC).mono ?_; rintro e w1 ⟨rfl, hb1⟩)
  go_ret2
  exact ⟨rfl, hb1⟩
end Go.Proofs.YtoboecppilmnnaaDoor
