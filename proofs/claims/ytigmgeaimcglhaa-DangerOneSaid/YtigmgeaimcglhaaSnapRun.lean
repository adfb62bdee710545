
/-
  CONTRACT of snap.Run: what any ops come to, by what was when deals began.
-/
import Derived.Test.YtigmgeaimcglhaaValidOut
import Derived.Test.YtigmgeaimcglhaaSnap

namespace Go.Proofs.Ytigmgeaimcglhaa
open Go.RowKit

theorem own_capV {w : World} {base : Nat} {e : TypeId} {size : Nat} {A : Option Addr} {n c : Nat} {xs : List Value} (h : w.ownsRow base e size (.slice A n c) n xs) : n ≤ c := by
  obtain ⟨_, ⟨he, h0⟩ | ⟨g, cap, cur, he, _, _, h1, _⟩⟩ := h
  · omega
  · injection he with e1 e2 e3; omega
/-- An outcome: who is done, what was seen, who wrote last. -/
def OutC (w w' : World) (e : Ending) (dn : List Int) (seen : List HOp) (last : List Int) : Prop :=
  ∃ A1 c1 A2 c2 b n1 n2, e = .returned (.tuple #[.agg #[.slice A1 n1 c1, .slice A2 n2 c2, .slice (some ⟨b, 0, none⟩) 6 6], .nilIface]) ∧ Rd w' w'.heap.size 1 A1 n1 (cellsI dn) ∧ Rd w' w'.heap.size 3 A2 n2 (cellsH seen) ∧ Rd w' w'.heap.size 1 (some ⟨b, 0, none⟩) 6 (cellsI last) ∧ Below w.heap.size w w' ∧ n1 ≤ c1
set_option maxRecDepth 100000 in
set_option maxHeartbeats 4000000 in
theorem snap_run (A : Option Addr) (n c : Nat) (h : List HOp) (w : World) (hr : Rd w w.heap.size 3 A n (cellsH h)) (hm : n ≤ 6000000000000) (hok : okH h) :
    Calls Try.prog 11 #[.slice A n c] w fun e w' => OutC w w' e (playV snapR h).dn (seenOf (playV snapR h)) (playV snapR h).last := by
  have CR := hide (fun w1 (hb : Below w.heap.size w w1) => right_h A n c h w1 ((hr.below hb).more hb.size) hm)
  rw [show (checkF h).2 = 0 from hok] at CR
  have hlen := okH_len hok
  have hn : n ≤ 40 := by rw [← hr.hlen]; exact hlen
  have CP := hide (fun w1 (hb : Below w.heap.size w w1) => vplay_any (tk := 3) (tl := 3) A n c h snapR (fun s d i => Nat.le_succ _) 30 31 #[] #[] #[] #[] w1 w1 none (.inl ⟨rfl, rfl⟩) (Below.refl _ _) ((hr.below hb).more hb.size) hn (okH_right hok) call_snapSee call_snapMay
    (fun s L tag w2 d i H hk hd h1 h2 _ => ((fun w2 H hk hd h1 h2 => snapSee_any w2 H hk hd h1 h2 _) w2 H hk hd h1 h2).mono fun e w' ⟨he, hb⟩ => ⟨he, L, tag, Looked.none H hb⟩)
    (fun s L tag w2 d H hk hd _ => (snapMay_any w2 H hk (by omega) hd).mono fun e w' ⟨he, hb⟩ => ⟨he, hb⟩))
  have HZ := hide (fun w1 (hb : Below (w.heap.size + 1) (w.alloc (.cells #[.slice none 0 0, .slice none 0 0, .slice none 0 0] 28)) w1) => (Blk.new w 28 [.slice none 0 0, .slice none 0 0, .slice none 0 0]).below hb (Nat.lt_succ_self _))
  have hb0 : Below w.heap.size w (w.alloc (.cells #[.slice none 0 0, .slice none 0 0, .slice none 0 0] 28)) := (Below.refl _ _).alloc (Nat.le_refl _) _
  have HB0 := hide hb0
  have hz0 : (w.alloc (.cells #[.slice none 0 0, .slice none 0 0, .slice none 0 0] 28)).heap.size = w.heap.size + 1 := by simp
  have HP : Hid (playV snapR h = playV snapR h) := Lib.hid rfl
  generalize playV snapR h = s at *
  clear hr hok hb0 hlen
  go_enter Try.func11, Try.ntmps11
  go_wp2_with fail
  refine (unhide CR _ (unhide HB0)).mono ?_
  rintro e w1 ⟨rfl, hb1⟩
  have hbw1 := (unhide HB0).trans (hb1.mono (unhide HB0).size)
  have hz1 := hb1.size
  have hbz1 : Below (w.heap.size + 1) (w.alloc (.cells #[.slice none 0 0, .slice none 0 0, .slice none 0 0] 28)) w1 := hb1.mono (by omega)
  rw [errV_zero]
  go_wp2_with fail
  refine (unhide CP w1 hbw1).mono ?_
  rintro e w2 ⟨L, tag, rfl, hP2, hk2⟩
  have hb2 := hP2.below
  have hz2 := hb2.size
  have hlB := hP2.heap.last
  rw [hP2.gl] at hlB
  have hl6 := hk2.last
  have CO := hide (out_any w2 hP2.heap hk2 (by omega) (some ⟨w1.heap.size + 1, 0, none⟩) 6 6)
  have hbw2 := hbw1.trans (hb2.mono hbw1.size)
  have hbz2 := hbz1.trans (hb2.mono (by omega))
  clear hP2 hk2
  go_wp2_with fail
  refine (unhide CO).mono ?_
  rintro e w3 ⟨v1, v2, rfl, ho1, ho2, _, hb3⟩
  have hz3 := hb3.size
  have hbw3 := hbw2.trans (hb3.mono hbw2.size)
  have hB4 := unhide HZ w3 (hbz2.trans (hb3.mono (by omega)))
  have hl3 := hlB.below hb3 hlB.lt
  obtain ⟨A1, c1, rfl⟩ := own_slice ho1
  obtain ⟨A2, c2, rfl⟩ := own_slice ho2
  have x0 := hB4.cellS (i := 0) (v := .slice none 0 0) rfl
  have x1 := hB4.cellS (i := 1) (v := .slice none 0 0) rfl
  have x2 := hB4.cellS (i := 2) (v := .slice none 0 0) rfl
  have f0 := hB4.frozen 0
  have f1 := hB4.frozen 1
  have f2 := hB4.frozen 2
  have hR := ((hB4.put 0 (.slice A1 s.dn.length c1)).put 1 (.slice A2 (seenOf s).length c2)).put 2 (.slice (some ⟨w1.heap.size + 1, 0, none⟩) 6 6)
  have r0 := hR.cellS (i := 0) (v := .slice A1 s.dn.length c1) rfl
  have r1 := hR.cellS (i := 1) (v := .slice A2 (seenOf s).length c2) rfl
  have r2 := hR.cellS (i := 2) (v := .slice (some ⟨w1.heap.size + 1, 0, none⟩) 6 6) rfl
  have hbx := ((hbw3.setCell (p := ⟨w.heap.size, 0, none⟩) (Nat.le_refl _) (.slice A1 s.dn.length c1)).setCell (p := ⟨w.heap.size, 1, none⟩) (Nat.le_refl _) (.slice A2 (seenOf s).length c2)).setCell (p := ⟨w.heap.size, 2, none⟩) (Nat.le_refl _) (.slice (some ⟨w1.heap.size + 1, 0, none⟩) 6 6)
  have o1 := own_far (own_far (own_far ho1 (p := ⟨w.heap.size, 0, none⟩) (by simp; omega) (.slice A1 s.dn.length c1)) (p := ⟨w.heap.size, 1, none⟩) (by simp; omega) (.slice A2 (seenOf s).length c2)) (p := ⟨w.heap.size, 2, none⟩) (by simp; omega) (.slice (some ⟨w1.heap.size + 1, 0, none⟩) 6 6)
  have o2 := own_far (own_far (own_far ho2 (p := ⟨w.heap.size, 0, none⟩) (by simp; omega) (.slice A1 s.dn.length c1)) (p := ⟨w.heap.size, 1, none⟩) (by simp; omega) (.slice A2 (seenOf s).length c2)) (p := ⟨w.heap.size, 2, none⟩) (by simp; omega) (.slice (some ⟨w1.heap.size + 1, 0, none⟩) 6 6)
  have o3 := ((hl3.far (p := ⟨w.heap.size, 0, none⟩) (by simp; omega) (.slice A1 s.dn.length c1)).far (p := ⟨w.heap.size, 1, none⟩) (by simp; omega) (.slice A2 (seenOf s).length c2)).far (p := ⟨w.heap.size, 2, none⟩) (by simp; omega) (.slice (some ⟨w1.heap.size + 1, 0, none⟩) 6 6)
  have o4 := rd_own (own_blk o3 (base := 0) (size := 1) (n := 6) (Nat.zero_le _) (by decide) (by unfold cellsI; rw [List.length_map, hl6]))
  have HO := hide (And.intro (rd_own o1) (And.intro (rd_own o2) o4))
  have hcap := own_capV ho1
  clear o1 o2 o3 o4 ho1 ho2 hR hB4 hlB hl3
  go_wp2
  refine bodyPost_ret (v := .tuple #[.agg #[.slice A1 s.dn.length c1, .slice A2 (seenOf s).length c2, .slice (some ⟨w1.heap.size + 1, 0, none⟩) 6 6], .nilIface]) (by simp [results, Try.results11, go_sem, r0, r1, r2]) rfl ?_
  exact ⟨A1, c1, A2, c2, w1.heap.size + 1, _, _, rfl, (unhide HO).1, (unhide HO).2.1, (unhide HO).2.2, hbx, hcap⟩
set_option maxRecDepth 100000 in
set_option maxHeartbeats 4000000 in
theorem snap_no (A : Option Addr) (n c : Nat) (h : List HOp) (w : World) (hr : Rd w w.heap.size 3 A n (cellsH h)) (hm : n ≤ 6000000000000) (hno : ¬ okH h) :
    Calls Try.prog 11 #[.slice A n c] w fun e w' => e = .returned (.tuple #[.agg #[.slice none 0 0, .slice none 0 0, .slice none 0 0], errV (checkF h).2]) ∧ Below w.heap.size w w' := by
  have CR := hide (fun w1 (hb : Below w.heap.size w w1) => right_h A n c h w1 ((hr.below hb).more hb.size) hm)
  rw [ne_errV (show (checkF h).2 ≠ 0 from hno)] at CR ⊢
  generalize (checkF h).2 = ev at *
  have HZ := hide (fun w1 (hb : Below (w.heap.size + 1) (w.alloc (.cells #[.slice none 0 0, .slice none 0 0, .slice none 0 0] 28)) w1) => (Blk.new w 28 [.slice none 0 0, .slice none 0 0, .slice none 0 0]).below hb (Nat.lt_succ_self _))
  have hb0 : Below w.heap.size w (w.alloc (.cells #[.slice none 0 0, .slice none 0 0, .slice none 0 0] 28)) := (Below.refl _ _).alloc (Nat.le_refl _) _
  have HB0 := hide hb0
  have hz0 : (w.alloc (.cells #[.slice none 0 0, .slice none 0 0, .slice none 0 0] 28)).heap.size = w.heap.size + 1 := by simp
  clear hr hno hb0
  go_enter Try.func11, Try.ntmps11
  go_wp2_with fail
  refine (unhide CR _ (unhide HB0)).mono ?_
  rintro e w1 ⟨rfl, hb1⟩
  have hbw1 := (unhide HB0).trans (hb1.mono (unhide HB0).size)
  have hB4 := unhide HZ w1 (hb1.mono (by omega))
  have x0 := hB4.cellS (i := 0) (v := .slice none 0 0) rfl
  have x1 := hB4.cellS (i := 1) (v := .slice none 0 0) rfl
  have x2 := hB4.cellS (i := 2) (v := .slice none 0 0) rfl
  have f0 := hB4.frozen 0
  have f1 := hB4.frozen 1
  have f2 := hB4.frozen 2
  have hR := ((hB4.put 0 (.slice none 0 0)).put 1 (.slice none 0 0)).put 2 (.slice none 0 0)
  have r0 := hR.cellS (i := 0) (v := .slice none 0 0) rfl
  have r1 := hR.cellS (i := 1) (v := .slice none 0 0) rfl
  have r2 := hR.cellS (i := 2) (v := .slice none 0 0) rfl
  have hbx := ((hbw1.setCell (p := ⟨w.heap.size, 0, none⟩) (Nat.le_refl _) (.slice none 0 0)).setCell (p := ⟨w.heap.size, 1, none⟩) (Nat.le_refl _) (.slice none 0 0)).setCell (p := ⟨w.heap.size, 2, none⟩) (Nat.le_refl _) (.slice none 0 0)
  clear hR hB4 HZ HB0 CR
  go_wp2
  refine bodyPost_ret (v := .tuple #[.agg #[.slice none 0 0, .slice none 0 0, .slice none 0 0], .iface 105 (.int .i64 ev)]) (by simp [results, Try.results11, go_sem, r0, r1, r2]) rfl ?_
  exact ⟨rfl, hbx⟩
end Go.Proofs.Ytigmgeaimcglhaa
