
/-
  CONTRACTS of snap.See, snap.May in a run's heap.
  CONTRACT of snap.Run: what any ops come to, by what was when deals began.
-/
import Derived.Test.YtfmdeahblaikoaaGreatDoorBG6
import Derived.Test.YtfmdeahblaikoaaGreatDoorValidOut

namespace Go.Proofs.YtfmdeahblaikoaaGreatDoor
open Go.RowKit

theorem call_snapSee (args : Array Value) (w : World) : (callFunc 28 args).run Tryz.prog w = .ok (.enter 28 args) w := by kernel_rfl
theorem call_snapMay (args : Array Value) (w : World) : (callFunc 38 args).run Tryz.prog w = .ok (.enter 38 args) w := by kernel_rfl
theorem call_snapMay1 (args : Array Value) (w : World) : (callFunc 57 args).run Tryz.prog w = .ok (.enter 57 args) w := by kernel_rfl
set_option maxHeartbeats 1000000 in
theorem snapSee_any {tk tl : TypeId} {lo : Nat} {s : VSt} {L : VLay} {tag : Nat → Int × Nat} {k0 : Nat} (w : World) (H : VHeap (vT tk tl) lo w s L tag) (hk : VOk k0 s) {d : Dl} (hd : d ∈ s.ds) {i : Int} (hi : 1 ≤ i) (hi2 : i ≤ 6) (v2 : Value) :
    Calls Tryz.prog 28 #[.pointer (some ⟨L.g d.tx, 0, none⟩), .int .i64 i, v2, L.vd] w fun e w' => e = .returned (.int .i64 (snapR.see s d i)) ∧ Below w.heap.size w w' := by
  have hD := H.deals d hd
  have hl := (hk.deals d hd).snap
  obtain ⟨A, c, hv⟩ := own_slice hD.snap
  have hB := hD.blk
  have hr := hD.snap
  rw [hv] at hB hr
  rw [hl] at hr hB
  obtain ⟨j, hj⟩ : ∃ j : Nat, i.toNat - 1 = j := ⟨_, rfl⟩
  have hj6 : j < 6 := by omega
  have e5 := hB.cellS (i := 5) (v := .slice A 6 c) rfl
  obtain ⟨b, off, x, he, hb, hx, c0⟩ := (rd_own hr).int (k := j) hj6
  cases he
  have i1 : IntKind.i64.wrap (i - 1) = (j : Int) := by
    rw [show i - 1 = (j : Int) by omega]; exact IntWalk.i64_in _ (by omega)
  have i2 : (0 : Int) ≤ (j : Int) := by omega
  have i3 : (j : Int) < 6 := by omega
  have i4 : (j : Int) < ((6 : Nat) : Int) := by omega
  have HX : Hid (snapR.see s d i = x) := Lib.hid (by
    show d.snap.getD (i.toNat - 1) 0 = x
    rw [hj, List.getD_eq_getElem?_getD, hx]; rfl)
  generalize snapR.see s d i = R at *
  generalize L.vd = vd at *
  generalize L.g d.tx = g at *
  clear hD hr hl hv H hk hx hj hj6
  go_enter Tryz.func28, Tryz.ntmps28
  go_wp2
  go_ret
  exact ⟨ret_int HX.out.symm, Below.refl _ _⟩
set_option maxHeartbeats 1000000 in
theorem snapMay1_any (gb gd : Nat) (c0 c1 c2 : Int) (c3 c5 : Value) (A : Option Addr) (n c : Nat) (l : List Int) (i : Int) (w : World) (hb : Blk w gb 81 [.pointer (some ⟨gd, 0, none⟩)]) (hd : Blk w gd 85 [.int .i64 c0, .int .i64 c1, .int .i64 c2, c3, .slice A n c, c5]) (hr : Rd w w.heap.size 1 A n (cellsI l)) (hm : n ≤ 1000000) :
    Calls Tryz.prog 57 #[.int .i64 i, .pointer (some ⟨gb, 0, none⟩)] w fun e w' => e = .returned (.bool (decide (i ∈ l))) ∧ Below w.heap.size w w' := by
  have e0 := hb.cellS (i := 0) (v := .pointer (some ⟨gd, 0, none⟩)) rfl
  have e4 := hd.cellS (i := 4) (v := .slice A n c) rfl
  have C := hide (icontains_rd A n c l i w _ hr (by omega))
  clear hb hd hr
  go_enter Tryz.func57, Tryz.ntmps57
  go_wp2_with fail
  refine (unhide C).mono ?_
  rintro e w2 ⟨rfl, rfl⟩
  go_wp2
  go_ret
  exact ⟨rfl, Below.refl _ _⟩
set_option maxHeartbeats 1000000 in
theorem snapMay_any {tk tl : TypeId} {lo : Nat} {s : VSt} {L : VLay} {tag : Nat → Int × Nat} {k0 : Nat} (w : World) (H : VHeap (vT tk tl) lo w s L tag) (hk : VOk k0 s) (hk0 : k0 ≤ 1000) {d : Dl} (hd : d ∈ s.ds) :
    Calls Tryz.prog 38 #[.pointer (some ⟨L.g d.tx, 0, none⟩), L.vd] w fun e w' => e = .returned (.bool (snapR.may s d)) ∧ Below w.heap.size w w' := by
  obtain ⟨Ad, cd, hvd⟩ := own_slice H.done
  have hD := H.deals d hd
  obtain ⟨Aw, cw, hvw⟩ := own_slice hD.wrote
  have hB := hD.blk
  have hw := hD.wrote
  rw [hvw] at hB hw
  have hwl := (hk.deals d hd).wrote
  have hb1 : Below w.heap.size w (w.alloc (.cells #[.pointer (some ⟨L.g d.tx, 0, none⟩)] 81)) := (Below.refl _ _).alloc (Nat.le_refl _) _
  have g0 := Blk.new w 81 [.pointer (some ⟨L.g d.tx, 0, none⟩)]
  have hB1 := hB.alloc (.cells #[.pointer (some ⟨L.g d.tx, 0, none⟩)] 81)
  have hw1 := own_alloc hw (.cells #[.pointer (some ⟨L.g d.tx, 0, none⟩)] 81)
  have e0 := g0.cellS (i := 0) (v := .pointer (some ⟨L.g d.tx, 0, none⟩)) rfl
  have e1 := hB1.cellS (i := 1) (v := .int .i64 d.began) rfl
  have C := hide (since_any _ (H.below hb1) hk hk0 d.began 57 #[] #[.pointer (some ⟨w.heap.size, 0, none⟩)] (fun i => decide (i ∈ d.wrote)) call_snapMay1 (fun i w' hb => snapMay1_any w.heap.size (L.g d.tx) d.tx d.began d.ended (L.vs d.tx) (L.vp d.tx) Aw d.wrote.length cw d.wrote i w' (g0.below hb g0.lt) (hB1.below hb hB1.lt) (((rd_own hw1).below hb).more hb.size) (by omega)))
  have HR : Hid (snapR.may s d = !sinceD d.began (doneD s) fun i => decide (i ∈ d.wrote)) := Lib.hid rfl
  rw [hvd] at C ⊢
  generalize snapR.may s d = R at *
  generalize sinceD d.began (doneD s) (fun i => decide (i ∈ d.wrote)) = q at *
  generalize d.began = bg at *
  generalize L.g d.tx = g at *
  clear hD hw hw1 hB hB1 g0 H hk hvd hvw hd hwl
  go_enter Tryz.func38, Tryz.ntmps38
  go_wp2_with fail
  refine (unhide C).mono ?_
  rintro e w2 ⟨rfl, hb2⟩
  go_wp2
  go_ret
  exact ⟨ret_bool HR.out.symm, hb1.trans (hb2.mono hb1.size)⟩
end Go.Proofs.YtfmdeahblaikoaaGreatDoor


namespace Go.Proofs.YtfmdeahblaikoaaGreatDoor
open Go.RowKit

theorem own_capV {w : World} {base : Nat} {e : TypeId} {size : Nat} {A : Option Addr} {n c : Nat} {xs : List Value} (h : w.ownsRow base e size (.slice A n c) n xs) : n ≤ c := by
  obtain ⟨_, ⟨he, h0⟩ | ⟨g, cap, cur, he, _, _, h1, _⟩⟩ := h
  · omega
  · injection he with e1 e2 e3; omega
/-- An outcome: who is done, what was seen, who wrote last. -/
def OutC (w w' : World) (e : Ending) (dn : List Int) (seen : List HOp) (last : List Int) : Prop :=
  ∃ A1 c1 A2 c2 b n1 n2, e = .returned (.tuple #[.agg #[.slice A1 n1 c1, .slice A2 n2 c2, .slice (some ⟨b, 0, none⟩) 6 6], .nilIface]) ∧ Rd w' w'.heap.size 1 A1 n1 (cellsI dn) ∧ Rd w' w'.heap.size 3 A2 n2 (cellsH seen) ∧ Rd w' w'.heap.size 1 (some ⟨b, 0, none⟩) 6 (cellsI last) ∧ Below w.heap.size w w' ∧ n1 ≤ c1
end Go.Proofs.YtfmdeahblaikoaaGreatDoor
