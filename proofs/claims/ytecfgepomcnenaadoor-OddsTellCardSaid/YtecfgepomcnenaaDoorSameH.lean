
/-
  CONTRACT of odds.Same.
-/
import Derived.Test.YtecfgepomcnenaaDoorAlike2
namespace Go.Proofs.YtecfgepomcnenaaDoor
open Go.RowKit

def sameE (h g : List HOp) : Int := if (checkF h).2 ≠ 0 then (checkF h).2 else (checkF g).2
def sameV (h g : List HOp) : Bool := decide ((checkF h).2 = 0 ∧ (checkF g).2 = 0) && alikeB h g
set_option maxRecDepth 100000 in
set_option maxHeartbeats 4000000 in
theorem same_any (A B : Option Addr) (n m c d : Nat) (h g : List HOp) (w : World) (hr : Rd w w.heap.size 3 A n (cellsH h)) (hg : Rd w w.heap.size 3 B m (cellsH g)) (hn : n ≤ 6000000000000) (hm : m ≤ 6000000000000) :
    Calls Tryd.prog 16 #[.slice A n c, .slice B m d] w fun e w' => e = .returned (.tuple #[.bool (sameV h g), errV (sameE h g)]) ∧ Below w.heap.size w w' := by
  have HV : Hid ((checkF h).2 ≠ 0 → sameV h g = false ∧ sameE h g = (checkF h).2) := Lib.hid (fun e => by unfold sameV sameE; simp [e])
  have HV2 : Hid ((checkF h).2 = 0 → (checkF g).2 ≠ 0 → sameV h g = false ∧ sameE h g = (checkF g).2) := Lib.hid (fun e e2 => by unfold sameV sameE; simp [e, e2])
  have HV3 : Hid ((checkF h).2 = 0 → (checkF g).2 = 0 → sameV h g = alikeB h g ∧ sameE h g = 0) := Lib.hid (fun e e2 => by unfold sameV sameE; simp [e, e2])
  have CH := hide (fun w1 (hb : Below w.heap.size w w1) => right_h A n c h w1 ((hr.below hb).more hb.size) hn)
  have CG := hide (fun w1 (hb : Below w.heap.size w w1) => right_h B m d g w1 ((hg.below hb).more hb.size) hm)
  have CA := hide (fun (e1 : (checkF h).2 = 0) (e2 : (checkF g).2 = 0) w1 (hb : Below w.heap.size w w1) => alike_any A B n m c d h g w1 ((hr.below hb).more hb.size) ((hg.below hb).more hb.size) (by have := okH_len (h := h) e1; rw [hr.hlen] at this; exact this) (by have := okH_len (h := g) e2; rw [hg.hlen] at this; exact this) (okH_tx e1) (okH_tx e2))
  have hb0 : Below w.heap.size w (w.alloc (.cells #[.slice A n c, .slice B m d] 22)) := (Below.refl _ _).alloc (Nat.le_refl _) _
  have hB0 := Blk.new w 22 [.slice A n c, .slice B m d]
  generalize sameV h g = V at *
  generalize sameE h g = E at *
  generalize (checkF h).2 = e1 at *
  generalize (checkF g).2 = e2 at *
  go_enter Tryd.func16, Tryd.ntmps16
  go_wp2
  go_loopw [13] (fun s13 wr => ∃ i : Nat, i ≤ 2 ∧ s13 = .int .i64 i ∧ Hid ((1 ≤ i → e1 = 0) ∧ (2 ≤ i → e2 = 0)) ∧ Blk wr w.heap.size 22 [.slice A n c, .slice B m d] ∧ Below w.heap.size w wr) (fun s13 _ => 2 - (intOf s13).toNat)
  case atStart => exact ⟨0, by omega, rfl, Lib.hid ⟨by omega, by omega⟩, hB0, hb0⟩
  case round =>
    clear hB0 hb0
    obtain ⟨i, hi, rfl, HI, hB, hbw⟩ := hrel
    have c0 := hB.cellS (i := 0) (v := .slice A n c) rfl
    have c1 := hB.cellS (i := 1) (v := .slice B m d) rfl
    have hlt := hB.lt
    obtain hi0 | hi1 | hi2 : i = 0 ∨ i = 1 ∨ i = 2 := by omega
    · subst hi0
      have C := hide (unhide CH wr hbw)
      by_cases he : e1 = 0
      · subst he
        rw [errV_zero] at C
        go_wp2_with fail
        refine (unhide C).mono ?_
        rintro e w2 ⟨rfl, hb2⟩
        have hbw2 := hbw.trans (hb2.mono hbw.size)
        have hB2 := hB.below hb2 hlt
        go_wp2
        go_roundw
        case rel => exact ⟨1, by omega, rfl, Lib.hid ⟨fun _ => by first | exact trivial | rfl, by omega⟩, hB2, hbw2⟩
        case measure => simp [intOf]
      · rw [ne_errV he] at C
        obtain ⟨f1, f2⟩ := HV.out he
        have HF : Hid (V = false ∧ errV E = .iface 72 (.int .i64 e1)) := Lib.hid ⟨f1, by rw [f2, ne_errV he]⟩
        clear he f1 f2
        go_wp2_with fail
        refine (unhide C).mono ?_
        rintro e w2 ⟨rfl, hb2⟩
        have hbw2 := hbw.trans (hb2.mono hbw.size)
        go_wp2
        go_ret2
        exact ⟨by rw [HF.out.1, HF.out.2]; rfl, hbw2⟩
    · subst hi1
      have C := hide (unhide CG wr hbw)
      have he1 := HI.out.1 (by omega)
      by_cases he : e2 = 0
      · subst he
        rw [errV_zero] at C
        have HI2 : Hid (e1 = 0) := Lib.hid he1
        clear he1 HI
        go_wp2_with fail
        refine (unhide C).mono ?_
        rintro e w2 ⟨rfl, hb2⟩
        have hbw2 := hbw.trans (hb2.mono hbw.size)
        have hB2 := hB.below hb2 hlt
        go_wp2
        go_roundw
        case rel => exact ⟨2, by omega, rfl, Lib.hid ⟨fun _ => HI2.out, fun _ => by first | exact trivial | rfl⟩, hB2, hbw2⟩
        case measure => simp [intOf]
      · rw [ne_errV he] at C
        obtain ⟨f1, f2⟩ := HV2.out he1 he
        have HF : Hid (V = false ∧ errV E = .iface 72 (.int .i64 e2)) := Lib.hid ⟨f1, by rw [f2, ne_errV he]⟩
        clear he f1 f2 he1 HI
        go_wp2_with fail
        refine (unhide C).mono ?_
        rintro e w2 ⟨rfl, hb2⟩
        have hbw2 := hbw.trans (hb2.mono hbw.size)
        go_wp2
        go_ret2
        exact ⟨by rw [HF.out.1, HF.out.2]; rfl, hbw2⟩
    · subst hi2
      have he1 := HI.out.1 (by omega)
      have he2 := HI.out.2 (by omega)
      obtain ⟨f1, f2⟩ := HV3.out he1 he2
      have C := hide (unhide CA he1 he2 wr hbw)
      have HF : Hid (V = alikeB h g ∧ errV E = .nilIface) := Lib.hid ⟨f1, by rw [f2, errV_zero]⟩
      clear he1 he2 f1 f2 HI
      go_wp2_with fail
      refine (unhide C).mono ?_
      rintro e w2 ⟨rfl, hb2⟩
      have hbw2 := hbw.trans (hb2.mono hbw.size)
      go_wp2
      go_ret2
      exact ⟨by rw [HF.out.1, HF.out.2]; rfl, hbw2⟩
end Go.Proofs.YtecfgepomcnenaaDoor
