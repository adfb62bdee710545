
/-
  CONTRACT of snap.Run: what any ops come to, by what was when deals began.
  CONTRACT of valid.Run: what any ops come to, looked at when deals end.
-/
import Derived.Test.YtigmgeaimcglhaaDoorValidOut
import Derived.Test.YtigmgeaimcglhaaDoorSnap

namespace Go.Proofs.YtigmgeaimcglhaaDoor
open Go.RowKit

theorem own_capV {w : World} {base : Nat} {e : TypeId} {size : Nat} {A : Option Addr} {n c : Nat} {xs : List Value} (h : w.ownsRow base e size (.slice A n c) n xs) : n ≤ c := by
  obtain ⟨_, ⟨he, h0⟩ | ⟨g, cap, cur, he, _, _, h1, _⟩⟩ := h
  · omega
  · injection he with e1 e2 e3; omega
/-- An outcome: who is done, what was seen, who wrote last. -/
def OutC (w w' : World) (e : Ending) (dn : List Int) (seen : List HOp) (last : List Int) : Prop :=
  ∃ A1 c1 A2 c2 b n1 n2, e = .returned (.tuple #[.agg #[.slice A1 n1 c1, .slice A2 n2 c2, .slice (some ⟨b, 0, none⟩) 6 6], .nilIface]) ∧ Rd w' w'.heap.size 1 A1 n1 (cellsI dn) ∧ Rd w' w'.heap.size 3 A2 n2 (cellsH seen) ∧ Rd w' w'.heap.size 1 (some ⟨b, 0, none⟩) 6 (cellsI last) ∧ Below w.heap.size w w' ∧ n1 ≤ c1
set_option maxRecDepth 100000 in
set_option maxHeartbeats 4000000 in
theorem snap_run (A : Option Addr) (n c : Nat) (h : List HOp) (w : World) (hr : Rd w w.heap.size 3 A n (cellsH h)) (hm : n ≤ 6000000000000) (hok : okH h) :
    Calls Tryd.prog 15 #[.slice A n c] w fun e w' => OutC w w' e (playV snapR h).dn (seenOf (playV snapR h)) (playV snapR h).last := by
  have CR := hide (fun w1 (hb : Below w.heap.size w w1) => right_h A n c h w1 ((hr.below hb).more hb.size) hm)
  rw [show (checkF h).2 = 0 from hok] at CR
  have hlen := okH_len hok
  have hn : n ≤ 40 := by rw [← hr.hlen]; exact hlen
  have CP := hide (fun w1 (hb : Below w.heap.size w w1) => vplay_any (tk := 3) (tl := 3) A n c h snapR (fun s d i => Nat.le_succ _) 36 37 #[] #[] #[] #[] w1 w1 none (.inl ⟨rfl, rfl⟩) (Below.refl _ _) ((hr.below hb).more hb.size) hn (okH_right hok) call_snapSee call_snapMay
    (fun s L tag w2 d i H hk hd h1 h2 _ => ((fun w2 H hk hd h1 h2 => snapSee_any w2 H hk hd h1 h2 _) w2 H hk hd h1 h2).mono fun e w' ⟨he, hb⟩ => ⟨he, L, tag, Looked.none H hb⟩)
    (fun s L tag w2 d H hk hd _ => (snapMay_any w2 H hk (by omega) hd).mono fun e w' ⟨he, hb⟩ => ⟨he, hb⟩))
  have HZ := hide (fun w1 (hb : Below (w.heap.size + 1) (w.alloc (.cells #[.slice none 0 0, .slice none 0 0, .slice none 0 0] 26)) w1) => (Blk.new w 26 [.slice none 0 0, .slice none 0 0, .slice none 0 0]).below hb (Nat.lt_succ_self _))
  have hb0 : Below w.heap.size w (w.alloc (.cells #[.slice none 0 0, .slice none 0 0, .slice none 0 0] 26)) := (Below.refl _ _).alloc (Nat.le_refl _) _
  have HB0 := hide hb0
  have hz0 : (w.alloc (.cells #[.slice none 0 0, .slice none 0 0, .slice none 0 0] 26)).heap.size = w.heap.size + 1 := by simp
  have HP : Hid (playV snapR h = playV snapR h) := Lib.hid rfl
  generalize playV snapR h = s at *
  clear hr hok hb0 hlen
  go_enter Tryd.func15, Tryd.ntmps15
  go_wp2_with fail
  refine (unhide CR _ (unhide HB0)).mono ?_
  rintro e w1 ⟨rfl, hb1⟩
  have hbw1 := (unhide HB0).trans (hb1.mono (unhide HB0).size)
  have hz1 := hb1.size
  have hbz1 : Below (w.heap.size + 1) (w.alloc (.cells #[.slice none 0 0, .slice none 0 0, .slice none 0 0] 26)) w1 := hb1.mono (by omega)
  rw [errV_zero]
  go_wp2_with fail
  refine (unhide CP w1 hbw1).mono ?_
  rintro e w2 ⟨L, tag, rfl, hP2, hk2⟩
  have hb2 := hP2.below
  have hz2 := hb2.size
  have hlB := hP2.heap.last
  rw [hP2.gl] at hlB
  have hl6 := hk2.last
  have CO := hide (out_any w2 hP2.heap hk2 (by omega) (some ⟨w1.heap.size + 1, 0, none⟩) 6 6)
  have hbw2 := hbw1.trans (hb2.mono hbw1.size)
  have hbz2 := hbz1.trans (hb2.mono (by omega))
  clear hP2 hk2
  go_wp2_with fail
  refine (unhide CO).mono ?_
  rintro e w3 ⟨v1, v2, rfl, ho1, ho2, _, hb3⟩
  have hz3 := hb3.size
  have hbw3 := hbw2.trans (hb3.mono hbw2.size)
  have hB4 := unhide HZ w3 (hbz2.trans (hb3.mono (by omega)))
  have hl3 := hlB.below hb3 hlB.lt
  obtain ⟨A1, c1, rfl⟩ := own_slice ho1
  obtain ⟨A2, c2, rfl⟩ := own_slice ho2
  have x0 := hB4.cellS (i := 0) (v := .slice none 0 0) rfl
  have x1 := hB4.cellS (i := 1) (v := .slice none 0 0) rfl
  have x2 := hB4.cellS (i := 2) (v := .slice none 0 0) rfl
  have f0 := hB4.frozen 0
  have f1 := hB4.frozen 1
  have f2 := hB4.frozen 2
  have hR := ((hB4.put 0 (.slice A1 s.dn.length c1)).put 1 (.slice A2 (seenOf s).length c2)).put 2 (.slice (some ⟨w1.heap.size + 1, 0, none⟩) 6 6)
  have r0 := hR.cellS (i := 0) (v := .slice A1 s.dn.length c1) rfl
  have r1 := hR.cellS (i := 1) (v := .slice A2 (seenOf s).length c2) rfl
  have r2 := hR.cellS (i := 2) (v := .slice (some ⟨w1.heap.size + 1, 0, none⟩) 6 6) rfl
  have hbx := ((hbw3.setCell (p := ⟨w.heap.size, 0, none⟩) (Nat.le_refl _) (.slice A1 s.dn.length c1)).setCell (p := ⟨w.heap.size, 1, none⟩) (Nat.le_refl _) (.slice A2 (seenOf s).length c2)).setCell (p := ⟨w.heap.size, 2, none⟩) (Nat.le_refl _) (.slice (some ⟨w1.heap.size + 1, 0, none⟩) 6 6)
  have o1 := own_far (own_far (own_far ho1 (p := ⟨w.heap.size, 0, none⟩) (by simp; omega) (.slice A1 s.dn.length c1)) (p := ⟨w.heap.size, 1, none⟩) (by simp; omega) (.slice A2 (seenOf s).length c2)) (p := ⟨w.heap.size, 2, none⟩) (by simp; omega) (.slice (some ⟨w1.heap.size + 1, 0, none⟩) 6 6)
  have o2 := own_far (own_far (own_far ho2 (p := ⟨w.heap.size, 0, none⟩) (by simp; omega) (.slice A1 s.dn.length c1)) (p := ⟨w.heap.size, 1, none⟩) (by simp; omega) (.slice A2 (seenOf s).length c2)) (p := ⟨w.heap.size, 2, none⟩) (by simp; omega) (.slice (some ⟨w1.heap.size + 1, 0, none⟩) 6 6)
  have o3 := ((hl3.far (p := ⟨w.heap.size, 0, none⟩) (by simp; omega) (.slice A1 s.dn.length c1)).far (p := ⟨w.heap.size, 1, none⟩) (by simp; omega) (.slice A2 (seenOf s).length c2)).far (p := ⟨w.heap.size, 2, none⟩) (by simp; omega) (.slice (some ⟨w1.heap.size + 1, 0, none⟩) 6 6)
  have o4 := rd_own (own_blk o3 (base := 0) (size := 1) (n := 6) (Nat.zero_le _) (by decide) (by unfold cellsI; rw [List.length_map, hl6]))
  have HO := hide (And.intro (rd_own o1) (And.intro (rd_own o2) o4))
  have hcap := own_capV ho1
  clear o1 o2 o3 o4 ho1 ho2 hR hB4 hlB hl3
  go_wp2
  refine bodyPost_ret (v := .tuple #[.agg #[.slice A1 s.dn.length c1, .slice A2 (seenOf s).length c2, .slice (some ⟨w1.heap.size + 1, 0, none⟩) 6 6], .nilIface]) (by simp [results, Tryd.results15, go_sem, r0, r1, r2]) rfl ?_
  exact ⟨A1, c1, A2, c2, w1.heap.size + 1, _, _, rfl, (unhide HO).1, (unhide HO).2.1, (unhide HO).2.2, hbx, hcap⟩
set_option maxRecDepth 100000 in
set_option maxHeartbeats 4000000 in
theorem snap_no (A : Option Addr) (n c : Nat) (h : List HOp) (w : World) (hr : Rd w w.heap.size 3 A n (cellsH h)) (hm : n ≤ 6000000000000) (hno : ¬ okH h) :
    Calls Tryd.prog 15 #[.slice A n c] w fun e w' => e = .returned (.tuple #[.agg #[.slice none 0 0, .slice none 0 0, .slice none 0 0], errV (checkF h).2]) ∧ Below w.heap.size w w' := by
  have CR := hide (fun w1 (hb : Below w.heap.size w w1) => right_h A n c h w1 ((hr.below hb).more hb.size) hm)
  rw [ne_errV (show (checkF h).2 ≠ 0 from hno)] at CR ⊢
  generalize (checkF h).2 = ev at *
  have HZ := hide (fun w1 (hb : Below (w.heap.size + 1) (w.alloc (.cells #[.slice none 0 0, .slice none 0 0, .slice none 0 0] 26)) w1) => (Blk.new w 26 [.slice none 0 0, .slice none 0 0, .slice none 0 0]).below hb (Nat.lt_succ_self _))
  have hb0 : Below w.heap.size w (w.alloc (.cells #[.slice none 0 0, .slice none 0 0, .slice none 0 0] 26)) := (Below.refl _ _).alloc (Nat.le_refl _) _
  have HB0 := hide hb0
  have hz0 : (w.alloc (.cells #[.slice none 0 0, .slice none 0 0, .slice none 0 0] 26)).heap.size = w.heap.size + 1 := by simp
  clear hr hno hb0
  go_enter Tryd.func15, Tryd.ntmps15
  go_wp2_with fail
  refine (unhide CR _ (unhide HB0)).mono ?_
  rintro e w1 ⟨rfl, hb1⟩
  have hbw1 := (unhide HB0).trans (hb1.mono (unhide HB0).size)
  have hB4 := unhide HZ w1 (hb1.mono (by omega))
  have x0 := hB4.cellS (i := 0) (v := .slice none 0 0) rfl
  have x1 := hB4.cellS (i := 1) (v := .slice none 0 0) rfl
  have x2 := hB4.cellS (i := 2) (v := .slice none 0 0) rfl
  have f0 := hB4.frozen 0
  have f1 := hB4.frozen 1
  have f2 := hB4.frozen 2
  have hR := ((hB4.put 0 (.slice none 0 0)).put 1 (.slice none 0 0)).put 2 (.slice none 0 0)
  have r0 := hR.cellS (i := 0) (v := .slice none 0 0) rfl
  have r1 := hR.cellS (i := 1) (v := .slice none 0 0) rfl
  have r2 := hR.cellS (i := 2) (v := .slice none 0 0) rfl
  have hbx := ((hbw1.setCell (p := ⟨w.heap.size, 0, none⟩) (Nat.le_refl _) (.slice none 0 0)).setCell (p := ⟨w.heap.size, 1, none⟩) (Nat.le_refl _) (.slice none 0 0)).setCell (p := ⟨w.heap.size, 2, none⟩) (Nat.le_refl _) (.slice none 0 0)
  clear hR hB4 HZ HB0 CR
  go_wp2
  refine bodyPost_ret (v := .tuple #[.agg #[.slice none 0 0, .slice none 0 0, .slice none 0 0], .iface 79 (.int .i64 ev)]) (by simp [results, Tryd.results15, go_sem, r0, r1, r2]) rfl ?_
  exact ⟨rfl, hbx⟩
end Go.Proofs.YtigmgeaimcglhaaDoor


namespace Go.Proofs.YtigmgeaimcglhaaDoor
open Go.RowKit

set_option maxHeartbeats 400000 in
theorem indexFunc_seen (A : Option Addr) (n cap : Nat) (h : List HOp) (F : FuncId) (caps : Array Value) (p : HOp → Bool) (w : World) (hr : Rd w w.heap.size 3 A n (cellsH h)) (hm : n ≤ 6000000000000)
    (hcall : ∀ (args : Array Value) (w : World), (callFunc F args).run Tryd.prog w = .ok (.enter F args) w)
    (hf : ∀ o ∈ h, ∀ w', Below w.heap.size w w' → Calls Tryd.prog F (#[o.val] ++ caps) w' fun e w'' => e = .returned (.bool (p o)) ∧ Below w'.heap.size w' w'') :
    Calls Tryd.prog 69 #[.slice A n cap, .func (.func F) #[] caps] w fun e w' => e = .returned (.int .i64 (idxGo p 0 h)) ∧ Below w.heap.size w w' := by
  have hl := hr.hlen
  have HL := Lib.hid hl
  have HF := Lib.hid hf
  clear hl hf
  go_enter Tryd.func69, Tryd.ntmps69
  go_wp2
  go_loopw [8] (fun i wr => ∃ k : Nat, k ≤ n ∧ i = .int .i64 k ∧ Hid (idxGo p 0 h = idxGo p k (h.drop k)) ∧ Below w.heap.size w wr) (fun i _ => n - (intOf i).toNat)
  case atStart => exact ⟨0, Nat.zero_le _, rfl, rfl, Below.refl _ _⟩
  case round =>
    obtain ⟨k, hk, rfl, HE, hbw⟩ := hrel
    by_cases hlt : k < n
    · obtain ⟨b, off, o, he, hb, ho, c0, c1, c2⟩ := (hr.below hbw).op (k := k) (by omega)
      cases he
      have HO := Lib.hid (drop_at ho)
      have hmem := Lib.hid (List.mem_of_getElem? ho)
      clear ho
      cases hP : p o
      · have HE2 : Hid (idxGo p 0 h = idxGo p (k + 1) (h.drop (k + 1))) := Lib.hid (by rw [HE.out, HO.out]; simp [idxGo, hP])
        go_wp2_with fail
        refine (HF.out o hmem.out wr hbw).mono ?_
        rintro e w1 ⟨rfl, hb1⟩
        rw [hP]
        go_wp2
        go_roundw
        case rel => exact ⟨k + 1, by omega, by go_num, HE2, hbw.trans (hb1.mono hbw.size)⟩
        case measure => simp [intOf]; omega
      · have HE2 : Hid (idxGo p 0 h = k) := Lib.hid (by rw [HE.out, HO.out]; simp [idxGo, hP])
        go_wp2_with fail
        refine (HF.out o hmem.out wr hbw).mono ?_
        rintro e w1 ⟨rfl, hb1⟩
        rw [hP]
        go_wp2
        go_ret
        exact ⟨ret_int HE2.out.symm, hbw.trans (hb1.mono hbw.size)⟩
    · have HE2 : Hid (idxGo p 0 h = -1) := Lib.hid (by rw [HE.out, drop_end (by rw [HL.out]; omega)]; rfl)
      go_wp2
      go_ret
      exact ⟨ret_int HE2.out.symm, hbw⟩
theorem containsFunc_seen (A : Option Addr) (n cap : Nat) (h : List HOp) (F : FuncId) (caps : Array Value) (p : HOp → Bool) (w : World) (hr : Rd w w.heap.size 3 A n (cellsH h)) (hm : n ≤ 6000000000000)
    (hcall : ∀ (args : Array Value) (w : World), (callFunc F args).run Tryd.prog w = .ok (.enter F args) w)
    (hf : ∀ o ∈ h, ∀ w', Below w.heap.size w w' → Calls Tryd.prog F (#[o.val] ++ caps) w' fun e w'' => e = .returned (.bool (p o)) ∧ Below w'.heap.size w' w'') :
    Calls Tryd.prog 49 #[.slice A n cap, .func (.func F) #[] caps] w fun e w' => e = .returned (.bool (h.any p)) ∧ Below w.heap.size w w' := by
  have C := indexFunc_seen A n cap h F caps p w hr hm hcall hf
  have HA := Lib.hid (idxGo_any p h)
  generalize idxGo p 0 h = v at *
  have HC := hide C
  clear C hf hcall
  go_enter Tryd.func49, Tryd.ntmps49
  go_wp2_with fail
  refine (unhide HC).mono ?_
  rintro e w1 ⟨rfl, hb1⟩
  go_wp2
  go_ret
  exact ⟨ret_bool HA.out, hb1⟩
theorem call_read (args : Array Value) (w : World) : (callFunc 23 args).run Tryd.prog w = .ok (.enter 23 args) w := by kernel_rfl
theorem call_read1 (args : Array Value) (w : World) : (callFunc 50 args).run Tryd.prog w = .ok (.enter 50 args) w := by kernel_rfl
theorem call_validSee (args : Array Value) (w : World) : (callFunc 20 args).run Tryd.prog w = .ok (.enter 20 args) w := by kernel_rfl
theorem call_validMay (args : Array Value) (w : World) : (callFunc 21 args).run Tryd.prog w = .ok (.enter 21 args) w := by kernel_rfl
set_option maxHeartbeats 1000000 in
theorem read1_any (gi gb gd : Nat) (item tx c1 c2 : Int) (c3 c4 c5 : Value) (q : HOp) (w : World) (h1 : Blk w gi 3 [.int .i64 item]) (h2 : Blk w gb 52 [.pointer (some ⟨gd, 0, none⟩)]) (hd : Blk w gd 56 [.int .i64 tx, .int .i64 c1, .int .i64 c2, c3, c4, c5]) :
    Calls Tryd.prog 50 #[q.val, .pointer (some ⟨gi, 0, none⟩), .pointer (some ⟨gb, 0, none⟩)] w fun e w' => e = .returned (.bool (decide (q.what = item) && !decide (q.item = tx))) ∧ Below w.heap.size w w' := by
  obtain ⟨a, b, c⟩ := q
  have e1 := (h1.alloc (.cells #[.int .i64 a, .int .i64 b, .int .i64 c] 72)).cellS (i := 0) (v := .int .i64 item) rfl
  have e2 := (h2.alloc (.cells #[.int .i64 a, .int .i64 b, .int .i64 c] 72)).cellS (i := 0) (v := .pointer (some ⟨gd, 0, none⟩)) rfl
  have e3 := (hd.alloc (.cells #[.int .i64 a, .int .i64 b, .int .i64 c] 72)).cellS (i := 0) (v := .int .i64 tx) rfl
  have hN := Blk.new w 72 [.int .i64 a, .int .i64 b, .int .i64 c]
  have n1 := hN.cellS (i := 1) (v := .int .i64 b) rfl
  have n2 := hN.cellS (i := 2) (v := .int .i64 c) rfl
  have hb0 : Below w.heap.size w (w.alloc (.cells #[.int .i64 a, .int .i64 b, .int .i64 c] 72)) := (Below.refl _ _).alloc (Nat.le_refl _) _
  clear h1 h2 hd hN
  show Calls _ _ _ _ fun e w' => e = .returned (.bool (decide (b = item) && !decide (c = tx))) ∧ _
  by_cases hb : b = item
  · have tb : (b == item) = true := by simpa using hb
    by_cases hc : c = tx
    · have tc : (c == tx) = true := by simpa using hc
      have hv : (decide (b = item) && !decide (c = tx)) = false := by rw [decide_eq_true hb, decide_eq_true hc]; rfl
      rw [hv]
      have HC := Lib.hid hc
      clear hb hc hv
      unfold HOp.val
      go_enter Tryd.func50, Tryd.ntmps50
      go_wp2
      go_quiet (fail)
      go_wp2
      go_ret
      exact ⟨by simp [HC.out], below_drewN hb0 _⟩
    · have tc : (c == tx) = false := by simpa using hc
      have hv : (decide (b = item) && !decide (c = tx)) = true := by rw [decide_eq_true hb, decide_eq_false hc]; rfl
      rw [hv]
      have HC := Lib.hid hc
      clear hb hc hv
      unfold HOp.val
      go_enter Tryd.func50, Tryd.ntmps50
      go_wp2
      go_quiet (fail)
      go_wp2
      go_ret
      exact ⟨by simp [HC.out], below_drewN hb0 _⟩
  · have tb : (b == item) = false := by simpa using hb
    have hv : (decide (b = item) && !decide (c = tx)) = false := by rw [decide_eq_false hb]; rfl
    rw [hv]
    clear hb hv
    unfold HOp.val
    go_enter Tryd.func50, Tryd.ntmps50
    go_wp2
    go_quiet (fail)
    go_wp2
    go_ret
    exact ⟨by simp, below_drewN hb0 _⟩
set_option maxHeartbeats 1000000 in
theorem read_any {tk tl : TypeId} {lo : Nat} {s : VSt} {L : VLay} {tag : Nat → Int × Nat} {k0 : Nat} (w : World) (H : VHeap (vT tk tl) lo w s L tag) (hk : VOk k0 s) (hk0 : k0 ≤ 1000) {d : Dl} (hd : d ∈ s.ds) (item : Int) :
    Calls Tryd.prog 23 #[.pointer (some ⟨L.g d.tx, 0, none⟩), .int .i64 item] w fun e w' => e = .returned (.bool (readD d item)) ∧ Below w.heap.size w w' := by
  have hD := H.deals d hd
  obtain ⟨As, cs, hvs⟩ := own_slice hD.seen
  have hB := hD.blk
  have hs := hD.seen
  rw [hvs] at hB hs
  have hsl := (hk.deals d hd).seen
  have hb1 : Below w.heap.size w ((w.alloc (.cells #[.pointer (some ⟨L.g d.tx, 0, none⟩)] 52)).alloc (.cells #[.int .i64 item] 3)) := ((Below.refl _ _).alloc (Nat.le_refl _) _).alloc (by simp) _
  have g0 := (Blk.new w 52 [.pointer (some ⟨L.g d.tx, 0, none⟩)]).alloc (.cells #[.int .i64 item] 3)
  have g1 : Blk ((w.alloc (.cells #[.pointer (some ⟨L.g d.tx, 0, none⟩)] 52)).alloc (.cells #[.int .i64 item] 3)) (w.heap.size + 1) 3 [.int .i64 item] := by
    have := Blk.new (w.alloc (.cells #[.pointer (some ⟨L.g d.tx, 0, none⟩)] 52)) 3 [.int .i64 item]
    simpa using this
  have hB1 := (hB.alloc (.cells #[.pointer (some ⟨L.g d.tx, 0, none⟩)] 52)).alloc (.cells #[.int .i64 item] 3)
  have hs1 := own_alloc (own_alloc hs (.cells #[.pointer (some ⟨L.g d.tx, 0, none⟩)] 52)) (.cells #[.int .i64 item] 3)
  have e0 := g0.cellS (i := 0) (v := .pointer (some ⟨L.g d.tx, 0, none⟩)) rfl
  have e3 := hB1.cellS (i := 3) (v := .slice As d.seen.length cs) rfl
  generalize hW : (w.alloc (.cells #[.pointer (some ⟨L.g d.tx, 0, none⟩)] 52)).alloc (.cells #[.int .i64 item] 3) = W at hb1 g0 g1 hB1 hs1 e0 e3
  have C := hide (containsFunc_seen As d.seen.length cs d.seen 50 #[.pointer (some ⟨w.heap.size + 1, 0, none⟩), .pointer (some ⟨w.heap.size, 0, none⟩)] (fun q => decide (q.what = item) && !decide (q.item = d.tx)) W (rd_own hs1) (by omega) call_read1 (fun q _ w' hb => read1_any (w.heap.size + 1) w.heap.size (L.g d.tx) item d.tx d.began d.ended (.slice As d.seen.length cs) (L.vw d.tx) (L.vp d.tx) q w' (g1.below hb g1.lt) (g0.below hb g0.lt) (hB1.below hb hB1.lt)))
  have HR : Hid (readD d item = d.seen.any fun q => decide (q.what = item) && !decide (q.item = d.tx)) := Lib.hid rfl
  rw [← HR.out] at C
  generalize readD d item = R at *
  generalize L.g d.tx = g at *
  clear HR hD hs hs1 hB hB1 g0 g1 H hk hvs hd
  subst hW
  go_enter Tryd.func23, Tryd.ntmps23
  go_wp2_with fail
  refine (unhide C).mono ?_
  rintro e w2 ⟨rfl, hb2⟩
  go_wp2
  go_ret
  exact ⟨rfl, hb1.trans (hb2.mono hb1.size)⟩
set_option maxHeartbeats 1000000 in
theorem validSee_any {tk tl : TypeId} {lo : Nat} {s : VSt} {L : VLay} {tag : Nat → Int × Nat} {k0 : Nat} (w : World) (H : VHeap (vT tk tl) lo w s L tag) (hk : VOk k0 s) {d : Dl} {i : Int} (hi : 1 ≤ i) (hi2 : i ≤ 6) :
    Calls Tryd.prog 20 #[.pointer (some ⟨L.g d.tx, 0, none⟩), .int .i64 i, .slice (some ⟨L.gl, 0, none⟩) 6 6, L.vd] w fun e w' => e = .returned (.int .i64 (validR.see s d i)) ∧ Below w.heap.size w w' := by
  have hB := H.last
  have hl := hk.last
  obtain ⟨j, hj⟩ : ∃ j : Nat, i.toNat - 1 = j := ⟨_, rfl⟩
  have hj6 : j < 6 := by omega
  obtain ⟨x, hx⟩ : ∃ x, s.last[j]? = some x := ⟨_, List.getElem?_eq_getElem (by omega)⟩
  have c0 := hB.cellS (i := j) (v := .int .i64 x) (by unfold cellsI; rw [List.getElem?_map, hx]; rfl)
  have i1 : IntKind.i64.wrap (i - 1) = (j : Int) := by
    rw [show i - 1 = (j : Int) by omega]; exact IntWalk.i64_in _ (by omega)
  have i2 : (0 : Int) ≤ (j : Int) := by omega
  have i3 : (j : Int) < 6 := by omega
  have i4 : (j : Int) < ((6 : Nat) : Int) := by omega
  have HX : Hid (validR.see s d i = x) := Lib.hid (by
    show s.last.getD (i.toNat - 1) 0 = x
    rw [hj, List.getD_eq_getElem?_getD, hx]; rfl)
  generalize validR.see s d i = R at *
  generalize L.vd = vd at *
  generalize L.g d.tx = g at *
  generalize L.gl = gl at *
  clear hB hl H hk hx hj hj6
  go_enter Tryd.func20, Tryd.ntmps20
  go_wp2
  go_ret
  exact ⟨ret_int HX.out.symm, Below.refl _ _⟩
set_option maxHeartbeats 1000000 in
theorem validMay_any {tk tl : TypeId} {lo : Nat} {s : VSt} {L : VLay} {tag : Nat → Int × Nat} {k0 : Nat} (w : World) (H : VHeap (vT tk tl) lo w s L tag) (hk : VOk k0 s) (hk0 : k0 ≤ 1000) {d : Dl} (hd : d ∈ s.ds) :
    Calls Tryd.prog 21 #[.pointer (some ⟨L.g d.tx, 0, none⟩), L.vd] w fun e w' => e = .returned (.bool (validR.may s d)) ∧ Below w.heap.size w w' := by
  obtain ⟨Ad, cd, hvd⟩ := own_slice H.done
  have hB := (H.deals d hd).blk
  have e1 := hB.cellS (i := 1) (v := .int .i64 d.began) rfl
  have C := hide (since_any w H hk hk0 d.began 23 #[.pointer (some ⟨L.g d.tx, 0, none⟩)] #[] (readD d) call_read (fun i w' hb => by
    have := read_any w' (H.below hb) hk hk0 hd i
    simpa using this))
  have HR : Hid (validR.may s d = !sinceD d.began (doneD s) (readD d)) := Lib.hid rfl
  rw [hvd] at C ⊢
  generalize validR.may s d = R at *
  generalize sinceD d.began (doneD s) (readD d) = q at *
  generalize d.began = bg at *
  generalize L.g d.tx = g at *
  clear hB H hk hvd hd
  go_enter Tryd.func21, Tryd.ntmps21
  go_wp2_with fail
  refine (unhide C).mono ?_
  rintro e w2 ⟨rfl, hb2⟩
  go_wp2
  go_ret
  exact ⟨ret_bool HR.out.symm, hb2⟩
set_option maxRecDepth 100000 in
set_option maxHeartbeats 4000000 in
theorem valid_run (A : Option Addr) (n c : Nat) (h : List HOp) (w : World) (hr : Rd w w.heap.size 3 A n (cellsH h)) (hm : n ≤ 6000000000000) (hok : okH h) :
    Calls Tryd.prog 6 #[.slice A n c] w fun e w' => OutC w w' e (playV validR h).dn (seenOf (playV validR h)) (playV validR h).last := by
  have CR := hide (fun w1 (hb : Below w.heap.size w w1) => right_h A n c h w1 ((hr.below hb).more hb.size) hm)
  rw [show (checkF h).2 = 0 from hok] at CR
  have hlen := okH_len hok
  have hn : n ≤ 40 := by rw [← hr.hlen]; exact hlen
  have CP := hide (fun w1 (hb : Below w.heap.size w w1) => vplay_any (tk := 3) (tl := 3) A n c h validR (fun s d i => Nat.le_succ _) 20 21 #[] #[] #[] #[] w1 w1 none (.inl ⟨rfl, rfl⟩) (Below.refl _ _) ((hr.below hb).more hb.size) hn (okH_right hok) call_validSee call_validMay
    (fun s L tag w2 d i H hk hd h1 h2 _ => ((fun w2 H hk hd h1 h2 => validSee_any w2 H hk h1 h2) w2 H hk hd h1 h2).mono fun e w' ⟨he, hb⟩ => ⟨he, L, tag, Looked.none H hb⟩)
    (fun s L tag w2 d H hk hd _ => (validMay_any w2 H hk (by omega) hd).mono fun e w' ⟨he, hb⟩ => ⟨he, hb⟩))
  have HZ := hide (fun w1 (hb : Below (w.heap.size + 1) (w.alloc (.cells #[.slice none 0 0, .slice none 0 0, .slice none 0 0] 26)) w1) => (Blk.new w 26 [.slice none 0 0, .slice none 0 0, .slice none 0 0]).below hb (Nat.lt_succ_self _))
  have hb0 : Below w.heap.size w (w.alloc (.cells #[.slice none 0 0, .slice none 0 0, .slice none 0 0] 26)) := (Below.refl _ _).alloc (Nat.le_refl _) _
  have HB0 := hide hb0
  have hz0 : (w.alloc (.cells #[.slice none 0 0, .slice none 0 0, .slice none 0 0] 26)).heap.size = w.heap.size + 1 := by simp
  have HP : Hid (playV validR h = playV validR h) := Lib.hid rfl
  generalize playV validR h = s at *
  clear hr hok hb0 hlen
  go_enter Tryd.func6, Tryd.ntmps6
  go_wp2_with fail
  refine (unhide CR _ (unhide HB0)).mono ?_
  rintro e w1 ⟨rfl, hb1⟩
  have hbw1 := (unhide HB0).trans (hb1.mono (unhide HB0).size)
  have hz1 := hb1.size
  have hbz1 : Below (w.heap.size + 1) (w.alloc (.cells #[.slice none 0 0, .slice none 0 0, .slice none 0 0] 26)) w1 := hb1.mono (by omega)
  rw [errV_zero]
  go_wp2_with fail
  refine (unhide CP w1 hbw1).mono ?_
  rintro e w2 ⟨L, tag, rfl, hP2, hk2⟩
  have hb2 := hP2.below
  have hz2 := hb2.size
  have hlB := hP2.heap.last
  rw [hP2.gl] at hlB
  have hl6 := hk2.last
  have CO := hide (out_any w2 hP2.heap hk2 (by omega) (some ⟨w1.heap.size + 1, 0, none⟩) 6 6)
  have hbw2 := hbw1.trans (hb2.mono hbw1.size)
  have hbz2 := hbz1.trans (hb2.mono (by omega))
  clear hP2 hk2
  go_wp2_with fail
  refine (unhide CO).mono ?_
  rintro e w3 ⟨v1, v2, rfl, ho1, ho2, _, hb3⟩
  have hz3 := hb3.size
  have hbw3 := hbw2.trans (hb3.mono hbw2.size)
  have hB4 := unhide HZ w3 (hbz2.trans (hb3.mono (by omega)))
  have hl3 := hlB.below hb3 hlB.lt
  obtain ⟨A1, c1, rfl⟩ := own_slice ho1
  obtain ⟨A2, c2, rfl⟩ := own_slice ho2
  have x0 := hB4.cellS (i := 0) (v := .slice none 0 0) rfl
  have x1 := hB4.cellS (i := 1) (v := .slice none 0 0) rfl
  have x2 := hB4.cellS (i := 2) (v := .slice none 0 0) rfl
  have f0 := hB4.frozen 0
  have f1 := hB4.frozen 1
  have f2 := hB4.frozen 2
  have hR := ((hB4.put 0 (.slice A1 s.dn.length c1)).put 1 (.slice A2 (seenOf s).length c2)).put 2 (.slice (some ⟨w1.heap.size + 1, 0, none⟩) 6 6)
  have r0 := hR.cellS (i := 0) (v := .slice A1 s.dn.length c1) rfl
  have r1 := hR.cellS (i := 1) (v := .slice A2 (seenOf s).length c2) rfl
  have r2 := hR.cellS (i := 2) (v := .slice (some ⟨w1.heap.size + 1, 0, none⟩) 6 6) rfl
  have hbx := ((hbw3.setCell (p := ⟨w.heap.size, 0, none⟩) (Nat.le_refl _) (.slice A1 s.dn.length c1)).setCell (p := ⟨w.heap.size, 1, none⟩) (Nat.le_refl _) (.slice A2 (seenOf s).length c2)).setCell (p := ⟨w.heap.size, 2, none⟩) (Nat.le_refl _) (.slice (some ⟨w1.heap.size + 1, 0, none⟩) 6 6)
  have o1 := own_far (own_far (own_far ho1 (p := ⟨w.heap.size, 0, none⟩) (by simp; omega) (.slice A1 s.dn.length c1)) (p := ⟨w.heap.size, 1, none⟩) (by simp; omega) (.slice A2 (seenOf s).length c2)) (p := ⟨w.heap.size, 2, none⟩) (by simp; omega) (.slice (some ⟨w1.heap.size + 1, 0, none⟩) 6 6)
  have o2 := own_far (own_far (own_far ho2 (p := ⟨w.heap.size, 0, none⟩) (by simp; omega) (.slice A1 s.dn.length c1)) (p := ⟨w.heap.size, 1, none⟩) (by simp; omega) (.slice A2 (seenOf s).length c2)) (p := ⟨w.heap.size, 2, none⟩) (by simp; omega) (.slice (some ⟨w1.heap.size + 1, 0, none⟩) 6 6)
  have o3 := ((hl3.far (p := ⟨w.heap.size, 0, none⟩) (by simp; omega) (.slice A1 s.dn.length c1)).far (p := ⟨w.heap.size, 1, none⟩) (by simp; omega) (.slice A2 (seenOf s).length c2)).far (p := ⟨w.heap.size, 2, none⟩) (by simp; omega) (.slice (some ⟨w1.heap.size + 1, 0, none⟩) 6 6)
  have o4 := rd_own (own_blk o3 (base := 0) (size := 1) (n := 6) (Nat.zero_le _) (by decide) (by unfold cellsI; rw [List.length_map, hl6]))
  have HO := hide (And.intro (rd_own o1) (And.intro (rd_own o2) o4))
  have hcap := own_capV ho1
  clear o1 o2 o3 o4 ho1 ho2 hR hB4 hlB hl3
  go_wp2
  refine bodyPost_ret (v := .tuple #[.agg #[.slice A1 s.dn.length c1, .slice A2 (seenOf s).length c2, .slice (some ⟨w1.heap.size + 1, 0, none⟩) 6 6], .nilIface]) (by simp [results, Tryd.results6, go_sem, r0, r1, r2]) rfl ?_
  exact ⟨A1, c1, A2, c2, w1.heap.size + 1, _, _, rfl, (unhide HO).1, (unhide HO).2.1, (unhide HO).2.2, hbx, hcap⟩
set_option maxRecDepth 100000 in
set_option maxHeartbeats 4000000 in
theorem valid_no (A : Option Addr) (n c : Nat) (h : List HOp) (w : World) (hr : Rd w w.heap.size 3 A n (cellsH h)) (hm : n ≤ 6000000000000) (hno : ¬ okH h) :
    Calls Tryd.prog 6 #[.slice A n c] w fun e w' => e = .returned (.tuple #[.agg #[.slice none 0 0, .slice none 0 0, .slice none 0 0], errV (checkF h).2]) ∧ Below w.heap.size w w' := by
  have CR := hide (fun w1 (hb : Below w.heap.size w w1) => right_h A n c h w1 ((hr.below hb).more hb.size) hm)
  rw [ne_errV (show (checkF h).2 ≠ 0 from hno)] at CR ⊢
  generalize (checkF h).2 = ev at *
  have HZ := hide (fun w1 (hb : Below (w.heap.size + 1) (w.alloc (.cells #[.slice none 0 0, .slice none 0 0, .slice none 0 0] 26)) w1) => (Blk.new w 26 [.slice none 0 0, .slice none 0 0, .slice none 0 0]).below hb (Nat.lt_succ_self _))
  have hb0 : Below w.heap.size w (w.alloc (.cells #[.slice none 0 0, .slice none 0 0, .slice none 0 0] 26)) := (Below.refl _ _).alloc (Nat.le_refl _) _
  have HB0 := hide hb0
  have hz0 : (w.alloc (.cells #[.slice none 0 0, .slice none 0 0, .slice none 0 0] 26)).heap.size = w.heap.size + 1 := by simp
  clear hr hno hb0
  go_enter Tryd.func6, Tryd.ntmps6
  go_wp2_with fail
  refine (unhide CR _ (unhide HB0)).mono ?_
  rintro e w1 ⟨rfl, hb1⟩
  have hbw1 := (unhide HB0).trans (hb1.mono (unhide HB0).size)
  have hB4 := unhide HZ w1 (hb1.mono (by omega))
  have x0 := hB4.cellS (i := 0) (v := .slice none 0 0) rfl
  have x1 := hB4.cellS (i := 1) (v := .slice none 0 0) rfl
  have x2 := hB4.cellS (i := 2) (v := .slice none 0 0) rfl
  have f0 := hB4.frozen 0
  have f1 := hB4.frozen 1
  have f2 := hB4.frozen 2
  have hR := ((hB4.put 0 (.slice none 0 0)).put 1 (.slice none 0 0)).put 2 (.slice none 0 0)
  have r0 := hR.cellS (i := 0) (v := .slice none 0 0) rfl
  have r1 := hR.cellS (i := 1) (v := .slice none 0 0) rfl
  have r2 := hR.cellS (i := 2) (v := .slice none 0 0) rfl
  have hbx := ((hbw1.setCell (p := ⟨w.heap.size, 0, none⟩) (Nat.le_refl _) (.slice none 0 0)).setCell (p := ⟨w.heap.size, 1, none⟩) (Nat.le_refl _) (.slice none 0 0)).setCell (p := ⟨w.heap.size, 2, none⟩) (Nat.le_refl _) (.slice none 0 0)
  clear hR hB4 HZ HB0 CR
  go_wp2
  refine bodyPost_ret (v := .tuple #[.agg #[.slice none 0 0, .slice none 0 0, .slice none 0 0], .iface 79 (.int .i64 ev)]) (by simp [results, Tryd.results6, go_sem, r0, r1, r2]) rfl ?_
  exact ⟨rfl, hbx⟩
end Go.Proofs.YtigmgeaimcglhaaDoor
