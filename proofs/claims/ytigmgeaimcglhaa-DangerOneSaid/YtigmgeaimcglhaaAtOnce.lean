
/-
  CONTRACTS of snap.AtOnce, snap.Deals.
-/
import Derived.Test.YtigmgeaimcglhaaSnapRun
import Derived.Deep.RegionHeld3

namespace Go.Proofs.Ytigmgeaimcglhaa
open Go.RowKit

set_option maxHeartbeats 2000000 in
theorem atOnce_any (ga gb : Nat) (xa ba ea xb bb eb : Int) (va vb vc ua ub uc : Value) (w : World) (ha : Blk w ga 67 [.int .i64 xa, .int .i64 ba, .int .i64 ea, va, vb, vc]) (hb : Blk w gb 67 [.int .i64 xb, .int .i64 bb, .int .i64 eb, ua, ub, uc]) :
    Calls Try.prog 38 #[.pointer (some ⟨ga, 0, none⟩), .pointer (some ⟨gb, 0, none⟩)] w fun e w' => e = .returned (.bool ((decide (eb < 0) || decide (ba < eb)) && (decide (ea < 0) || decide (bb < ea)))) ∧ ∃ m, w' = w.drewN m := by
  have e1 := ha.cellS (i := 1) (v := .int .i64 ba) rfl
  have e2 := ha.cellS (i := 2) (v := .int .i64 ea) rfl
  have f1 := hb.cellS (i := 1) (v := .int .i64 bb) rfl
  have f2 := hb.cellS (i := 2) (v := .int .i64 eb) rfl
  clear ha hb
  obtain ⟨p, hp⟩ : ∃ p : Bool, decide (eb < 0) = p := ⟨_, rfl⟩
  obtain ⟨q, hq⟩ : ∃ q : Bool, decide (ba < eb) = q := ⟨_, rfl⟩
  obtain ⟨r, hr⟩ : ∃ r : Bool, decide (ea < 0) = r := ⟨_, rfl⟩
  obtain ⟨t, ht⟩ : ∃ t : Bool, decide (bb < ea) = t := ⟨_, rfl⟩
  rw [hp, hq, hr, ht]
  cases p
  · cases q
    · go_enter Try.func38, Try.ntmps38
      go_wp2
      go_quiet (fail)
      go_wp2
      go_ret
      exact ⟨by simp, _, rfl⟩
    · cases r
      · cases t
        all_goals
          go_enter Try.func38, Try.ntmps38
          go_wp2
          go_quiet (fail)
          go_wp2
          go_ret
          exact ⟨by simp, _, rfl⟩
      · go_enter Try.func38, Try.ntmps38
        go_wp2
        go_quiet (fail)
        go_wp2
        go_ret
        exact ⟨by simp, _, rfl⟩
  · cases r
    · cases t
      all_goals
        go_enter Try.func38, Try.ntmps38
        go_wp2
        go_quiet (fail)
        go_wp2
        go_ret
        exact ⟨by simp, _, rfl⟩
    · go_enter Try.func38, Try.ntmps38
      go_wp2
      go_quiet (fail)
      go_wp2
      go_ret
      exact ⟨by simp, _, rfl⟩
/-- A deal of a state, by its number. -/
def dgd (s : VSt) (t : Int) : Dl := (dget s.ds t).getD ⟨t, 0, 0, [], [], []⟩
theorem doneD_dgd (s : VSt) : doneD s = s.dn.map (dgd s) := rfl
set_option maxHeartbeats 2000000 in
theorem deals_any (A : Option Addr) (n c : Nat) (h : List HOp) (w : World) (hr : Rd w w.heap.size 3 A n (cellsH h)) (hok : okH h) :
    Calls Try.prog 37 #[.slice A n c] w fun e w' => ∃ L tag, e = .returned L.vd ∧ VHeap (vT 3 3) w.heap.size w' (playV snapR h) L tag ∧ VOk 40 (playV snapR h) ∧ Below w.heap.size w w' := by
  have hn : n ≤ 40 := by rw [← hr.hlen]; exact okH_len hok
  have CP := hide (vplay_any (tk := 3) (tl := 3) A n c h snapR (fun s d i => Nat.le_succ _) 30 31 #[] #[] #[] #[] w w none (.inl ⟨rfl, rfl⟩) (Below.refl _ _) hr hn (okH_right hok) call_snapSee call_snapMay
    (fun s L tag w2 d i H hk hd h1 h2 _ => (snapSee_any w2 H hk hd h1 h2 _).mono fun e w' ⟨he, hb⟩ => ⟨he, L, tag, Looked.none H hb⟩)
    (fun s L tag w2 d H hk hd _ => (snapMay_any w2 H hk (by omega) hd).mono fun e w' ⟨he, hb⟩ => ⟨he, hb⟩))
  generalize playV snapR h = s at *
  clear hr hok
  go_enter Try.func37, Try.ntmps37
  go_wp2_with fail
  refine (unhide CP).mono ?_
  rintro e w2 ⟨L, tag, rfl, hP2, hk2⟩
  obtain ⟨Ad, cd, hvd⟩ := own_slice hP2.heap.done
  have HP := hide hP2
  have HK := Lib.hid hk2
  rw [hvd]
  clear hP2 hk2 CP
  go_wp2
  go_ret
  exact ⟨L, tag, by rw [hvd]; rfl, (unhide HP).heap, ⟨by have := HK.out.dn; omega, HK.out.last, by have := HK.out.looks; omega, fun d hd => by
    have h := HK.out.deals d hd
    exact ⟨by have := h.seen; omega, by have := h.wrote; omega, h.items, h.snap, h.tx, ⟨h.began.1, by have := h.began.2; omega⟩, ⟨h.ended.1, by have := h.ended.2; omega⟩⟩⟩, (unhide HP).below⟩
end Go.Proofs.Ytigmgeaimcglhaa
