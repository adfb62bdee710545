
/-
  CONTRACT of stock.End.
-/
import Derived.Test.YtppfhkmhciiaiaaDoorStock
import Derived.RegionTactic
import Derived.BigRegion

namespace Go.Proofs.YtppfhkmhciiaiaaDoor
open Go.RowKit

theorem end_bad (s : Nat) (tx : Int) (c : Bool) (w : World) (hT : txB tx = false) :
    Calls Tryd.prog 8 #[.pointer (some ⟨s, 0, none⟩), .int .i64 tx, .bool c] w fun e w' => e = .returned (.tuple #[.int .i64 0, .iface 41 (.int .i64 1)]) ∧ w = w' := by
  go_enter Tryd.func8, Tryd.ntmps8
  go_wp2_with (go_at_call 12; refine (tx_any _ _).mono ?_; rintro e w' ⟨rfl, rfl⟩; rw [hT])
  go_ret2
  exact ⟨rfl, rfl⟩

set_option maxRecDepth 100000 in
set_option maxHeartbeats 2000000 in
theorem end_none (s b : Nat) (now : Int) (m : StM) (tx : Int) (c : Bool) (w : World) (h : StW w s b now m) (hT : txB tx = true) (hg : getL m tx = none) :
    Calls Tryd.prog 8 #[.pointer (some ⟨s, 0, none⟩), .int .i64 tx, .bool c] w fun e w' => e = .returned (.tuple #[.int .i64 0, .iface 41 (.int .i64 5)]) ∧ Below w.heap.size w w' := by
  have c1 := h.blk.cellS (i := 1) (v := .map (some b)) rfl
  have hm1 := h.map
  have hz := zero_asked
  have HG : Hid (getI (mvf askV m) tx = none) := Lib.hid (by rw [getI_mvf, hg]; rfl)
  clear hg
  go_enter Tryd.func8, Tryd.ntmps8
  go_wp2_with (first
    | (go_at_call 12; refine (tx_any _ _).mono ?_; rintro e w' ⟨rfl, rfl⟩; rw [hT])
    | (at_lookup; refine wpList_lookupI rfl (.tmp 18) (.tmp 19) _ true rfl Tryd.underlying42 Tryd.underlying3 hm1 hz (by rfl) (by rfl) ?_; rw [HG.out]; simp only [if_true, Option.getD_none, Option.isSome_none]))
  go_ret2
  exact ⟨rfl, (Below.refl _ _).alloc (Nat.le_refl _) _⟩

def endNow (now : Int) (c : Bool) (a : Int × Int) : Int := if c then now + (a.1 - a.2) else now

set_option maxRecDepth 100000 in
set_option maxHeartbeats 4000000 in
theorem end_some2 (s b : Nat) (now : Int) (m : StM) (tx : Int) (c : Bool) (av tv : Int) (w : World) (lo : Nat) (h : StW w s b now m) (hls : lo ≤ s) (hlb : lo ≤ b) (hlw : lo ≤ w.heap.size) (hT : txB tx = true) (hg : getL m tx = some (av, tv))
    (b0 : 0 ≤ now) (b1 : now ≤ 1000000) (b2 : 0 ≤ av) (b3 : av ≤ 1000000) (b4 : 0 ≤ tv) (b5 : tv ≤ 1000000) :
    Calls Tryd.prog 8 #[.pointer (some ⟨s, 0, none⟩), .int .i64 tx, .bool c] w fun e w' => e = .returned (.tuple #[.int .i64 (endNow now c (av, tv)), .nilIface]) ∧ StW w' s b (endNow now c (av, tv)) (delL m tx) ∧ Below lo w w' ∧ (∀ g, g < w.heap.size → g ≠ b → g ≠ s → w'.heap[g]? = w.heap[g]?) := by
  have c1 := h.blk.cellS (i := 1) (v := .map (some b)) rfl
  have hm1 := h.map
  have hz := zero_asked
  have HG : Hid (getI (mvf askV m) tx = some (.agg #[.int .i64 av, .int .i64 tv])) := Lib.hid (by rw [getI_mvf, hg]; rfl)
  have HD := Lib.hid (delI_mvf askV m tx)
  have hne : s ≠ b := by intro e; subst e; obtain ⟨_, _, hx, _⟩ := hm1; rw [show _ = _ from h.blk] at hx; cases hx
  have hsl := h.blk.lt
  have hbl := h.map.lt
  clear hg
  have hb0 := Blk.new w 47 [.int .i64 av, .int .i64 tv]
  have hs0 := h.blk.alloc (.cells #[.int .i64 av, .int .i64 tv] 47)
  have hm0 := hm1.alloc (.cells #[.int .i64 av, .int .i64 tv] 47)
  have hbw := (Below.refl lo w).alloc hlw (.cells #[.int .i64 av, .int .i64 tv] 47)
  have k1 := hs0.cellS (i := 1) (v := .map (some b)) rfl
  cases c
  · have HE : Hid (endNow now false (av, tv) = now) := Lib.hid rfl
    go_enter Tryd.func8, Tryd.ntmps8
    go_wp2_with (first
      | (go_at_call 12; refine (tx_any _ _).mono ?_; rintro e w' ⟨rfl, rfl⟩; rw [hT])
      | (at_lookup; refine wpList_lookupI rfl (.tmp 18) (.tmp 19) _ true rfl Tryd.underlying42 Tryd.underlying3 hm1 hz (by rfl) (by rfl) ?_; rw [HG.out]; simp only [if_true, Option.getD_some, Option.isSome_some])
      | (at_delete; refine wpList_deleteI rfl (.tmp 29) (.tmp 30) _ rfl Tryd.underlying42 Tryd.underlying3 hm0 (by rfl) (by rfl) ?_; intro w2 hm2 hg2; rw [HD.out] at hm2; have hs2 := hs0.grown hg2 (fun k hk => by cases hk; exact hne); have k2 := hs2.cellS (i := 0) (v := .int .i64 now) rfl; have hb2 := hbw.grown hg2 (by simp; omega) (fun k hk => by cases hk; exact hlb)))
    have HKP : Hid (∀ g, g < w.heap.size → g ≠ b → g ≠ s → w2.heap[g]? = w.heap[g]?) := Lib.hid (fun g hg hne _ => (hg2.block g (by simp; omega) (fun e => hne (by cases e; rfl))).trans (Below.heap_alloc w _ g hg))
    go_ret2
    exact ⟨by rw [HE.out]; rfl, by rw [HE.out]; exact ⟨hs2, hm2⟩, hb2, HKP.out⟩
  · have HE : Hid (endNow now true (av, tv) = now + (av - tv)) := Lib.hid rfl
    go_enter Tryd.func8, Tryd.ntmps8
    go_wp2_with (first
      | (go_at_call 12; refine (tx_any _ _).mono ?_; rintro e w' ⟨rfl, rfl⟩; rw [hT])
      | (at_lookup; refine wpList_lookupI rfl (.tmp 18) (.tmp 19) _ true rfl Tryd.underlying42 Tryd.underlying3 hm1 hz (by rfl) (by rfl) ?_; rw [HG.out]; simp only [if_true, Option.getD_some, Option.isSome_some])
      | (at_delete; refine wpList_deleteI rfl (.tmp 29) (.tmp 30) _ rfl Tryd.underlying42 Tryd.underlying3 hm0 (by rfl) (by rfl) ?_; intro w2 hm2 hg2; rw [HD.out] at hm2; have hs2 := hs0.grown hg2 (fun k hk => by cases hk; exact hne); have k2 := hs2.cellS (i := 0) (v := .int .i64 now) rfl; have k3 := hs2.frozen 0; have hb2 := hbw.grown hg2 (by simp; omega) (fun k hk => by cases hk; exact hlb); have ha2 := hb0.grown hg2 (fun k hk => by cases hk; omega); have k4 := ha2.cellS (i := 0) (v := .int .i64 av) rfl; have k5 := ha2.cellS (i := 1) (v := .int .i64 tv) rfl))
    have HKP : Hid (∀ g, g < w.heap.size → g ≠ b → w2.heap[g]? = w.heap[g]?) := Lib.hid (fun g hg hne => (hg2.block g (by simp; omega) (fun e => hne (by cases e; rfl))).trans (Below.heap_alloc w _ g hg))
    clear hm0 hs0 hb0 k1 c1 hm1
    go_region
    all_goals
      go_wp2
      go_ret2
      exact ⟨by rw [HE.out]; rfl, by rw [HE.out]; exact ⟨(hs2.put 0 _).drew, (hm2.set (p := ⟨s, 0, none⟩) (Ne.symm hne) _).drew⟩, (hb2.setCell (p := ⟨s, 0, none⟩) hls _).drew, fun g hg h1 h2 => (Below.heap_setCell _ ⟨s, 0, none⟩ _ g h2).trans (HKP.out g hg h1)⟩
theorem end_some (s b : Nat) (now : Int) (m : StM) (tx : Int) (c : Bool) (av tv : Int) (w : World) (lo : Nat) (h : StW w s b now m) (hls : lo ≤ s) (hlb : lo ≤ b) (hlw : lo ≤ w.heap.size) (hT : txB tx = true) (hg : getL m tx = some (av, tv))
    (b0 : 0 ≤ now) (b1 : now ≤ 1000000) (b2 : 0 ≤ av) (b3 : av ≤ 1000000) (b4 : 0 ≤ tv) (b5 : tv ≤ 1000000) :
    Calls Tryd.prog 8 #[.pointer (some ⟨s, 0, none⟩), .int .i64 tx, .bool c] w fun e w' => e = .returned (.tuple #[.int .i64 (endNow now c (av, tv)), .nilIface]) ∧ StW w' s b (endNow now c (av, tv)) (delL m tx) ∧ Below lo w w' :=
  (end_some2 s b now m tx c av tv w lo h hls hlb hlw hT hg b0 b1 b2 b3 b4 b5).mono fun _ _ ⟨h1, h2, h3, _⟩ => ⟨h1, h2, h3⟩
end Go.Proofs.YtppfhkmhciiaiaaDoor
