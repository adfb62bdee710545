
/-
  CONTRACT of valid.Run: what any ops come to, looked at when deals end.
-/
import Derived.Test.YtfmdeahblaikoaaGreatDoorBG7

namespace Go.Proofs.YtfmdeahblaikoaaGreatDoor
open Go.RowKit

set_option maxHeartbeats 400000 in
theorem indexFunc_seen (A : Option Addr) (n cap : Nat) (h : List HOp) (F : FuncId) (caps : Array Value) (p : HOp → Bool) (w : World) (hr : Rd w w.heap.size 3 A n (cellsH h)) (hm : n ≤ 6000000000000)
    (hcall : ∀ (args : Array Value) (w : World), (callFunc F args).run Tryz.prog w = .ok (.enter F args) w)
    (hf : ∀ o ∈ h, ∀ w', Below w.heap.size w w' → Calls Tryz.prog F (#[o.val] ++ caps) w' fun e w'' => e = .returned (.bool (p o)) ∧ Below w'.heap.size w' w'') :
    Calls Tryz.prog 66 #[.slice A n cap, .func (.func F) #[] caps] w fun e w' => e = .returned (.int .i64 (idxGo p 0 h)) ∧ Below w.heap.size w w' := by
  have hl := hr.hlen
  have HL := Lib.hid hl
  have HF := Lib.hid hf
  clear hl hf
  go_enter Tryz.func66, Tryz.ntmps66
  go_wp2
  go_loopw [8] (fun i wr => ∃ k : Nat, k ≤ n ∧ i = .int .i64 k ∧ Hid (idxGo p 0 h = idxGo p k (h.drop k)) ∧ Below w.heap.size w wr) (fun i _ => n - (intOf i).toNat)
  case atStart => exact ⟨0, Nat.zero_le _, rfl, rfl, Below.refl _ _⟩
  case round =>
    obtain ⟨k, hk, rfl, HE, hbw⟩ := hrel
    by_cases hlt : k < n
    · obtain ⟨b, off, o, he, hb, ho, c0, c1, c2⟩ := (hr.below hbw).op (k := k) (by omega)
      cases he
      have HO := Lib.hid (drop_at ho)
      have hmem := Lib.hid (List.mem_of_getElem? ho)
      clear ho
      cases hP : p o
      · have HE2 : Hid (idxGo p 0 h = idxGo p (k + 1) (h.drop (k + 1))) := Lib.hid (by rw [HE.out, HO.out]; simp [idxGo, hP])
        go_wp2_with fail
        refine (HF.out o hmem.out wr hbw).mono ?_
        rintro e w1 ⟨rfl, hb1⟩
        rw [hP]
        go_wp2
        go_roundw
        case rel => exact ⟨k + 1, by omega, by go_num, HE2, hbw.trans (hb1.mono hbw.size)⟩
        case measure => simp [intOf]; omega
      · have HE2 : Hid (idxGo p 0 h = k) := Lib.hid (by rw [HE.out, HO.out]; simp [idxGo, hP])
        go_wp2_with fail
        refine (HF.out o hmem.out wr hbw).mono ?_
        rintro e w1 ⟨rfl, hb1⟩
        rw [hP]
        go_wp2
        go_ret
        exact ⟨ret_int HE2.out.symm, hbw.trans (hb1.mono hbw.size)⟩
    · have HE2 : Hid (idxGo p 0 h = -1) := Lib.hid (by rw [HE.out, drop_end (by rw [HL.out]; omega)]; rfl)
      go_wp2
      go_ret
      exact ⟨ret_int HE2.out.symm, hbw⟩
theorem containsFunc_seen (A : Option Addr) (n cap : Nat) (h : List HOp) (F : FuncId) (caps : Array Value) (p : HOp → Bool) (w : World) (hr : Rd w w.heap.size 3 A n (cellsH h)) (hm : n ≤ 6000000000000)
    (hcall : ∀ (args : Array Value) (w : World), (callFunc F args).run Tryz.prog w = .ok (.enter F args) w)
    (hf : ∀ o ∈ h, ∀ w', Below w.heap.size w w' → Calls Tryz.prog F (#[o.val] ++ caps) w' fun e w'' => e = .returned (.bool (p o)) ∧ Below w'.heap.size w' w'') :
    Calls Tryz.prog 49 #[.slice A n cap, .func (.func F) #[] caps] w fun e w' => e = .returned (.bool (h.any p)) ∧ Below w.heap.size w w' := by
  have C := indexFunc_seen A n cap h F caps p w hr hm hcall hf
  have HA := Lib.hid (idxGo_any p h)
  generalize idxGo p 0 h = v at *
  have HC := hide C
  clear C hf hcall
  go_enter Tryz.func49, Tryz.ntmps49
  go_wp2_with fail
  refine (unhide HC).mono ?_
  rintro e w1 ⟨rfl, hb1⟩
  go_wp2
  go_ret
  exact ⟨ret_bool HA.out, hb1⟩
theorem call_read (args : Array Value) (w : World) : (callFunc 36 args).run Tryz.prog w = .ok (.enter 36 args) w := by kernel_rfl
theorem call_read1 (args : Array Value) (w : World) : (callFunc 50 args).run Tryz.prog w = .ok (.enter 50 args) w := by kernel_rfl
set_option maxHeartbeats 1000000 in
theorem read1_any (gi gb gd : Nat) (item tx c1 c2 : Int) (c3 c4 c5 : Value) (q : HOp) (w : World) (h1 : Blk w gi 3 [.int .i64 item]) (h2 : Blk w gb 81 [.pointer (some ⟨gd, 0, none⟩)]) (hd : Blk w gd 85 [.int .i64 tx, .int .i64 c1, .int .i64 c2, c3, c4, c5]) :
    Calls Tryz.prog 50 #[q.val, .pointer (some ⟨gi, 0, none⟩), .pointer (some ⟨gb, 0, none⟩)] w fun e w' => e = .returned (.bool (decide (q.what = item) && !decide (q.item = tx))) ∧ Below w.heap.size w w' := by
  obtain ⟨a, b, c⟩ := q
  have e1 := (h1.alloc (.cells #[.int .i64 a, .int .i64 b, .int .i64 c] 62)).cellS (i := 0) (v := .int .i64 item) rfl
  have e2 := (h2.alloc (.cells #[.int .i64 a, .int .i64 b, .int .i64 c] 62)).cellS (i := 0) (v := .pointer (some ⟨gd, 0, none⟩)) rfl
  have e3 := (hd.alloc (.cells #[.int .i64 a, .int .i64 b, .int .i64 c] 62)).cellS (i := 0) (v := .int .i64 tx) rfl
  have hN := Blk.new w 62 [.int .i64 a, .int .i64 b, .int .i64 c]
  have n1 := hN.cellS (i := 1) (v := .int .i64 b) rfl
  have n2 := hN.cellS (i := 2) (v := .int .i64 c) rfl
  have hb0 : Below w.heap.size w (w.alloc (.cells #[.int .i64 a, .int .i64 b, .int .i64 c] 62)) := (Below.refl _ _).alloc (Nat.le_refl _) _
  clear h1 h2 hd hN
  show Calls _ _ _ _ fun e w' => e = .returned (.bool (decide (b = item) && !decide (c = tx))) ∧ _
  by_cases hb : b = item
  · have tb : (b == item) = true := by simpa using hb
    by_cases hc : c = tx
    · have tc : (c == tx) = true := by simpa using hc
      have hv : (decide (b = item) && !decide (c = tx)) = false := by rw [decide_eq_true hb, decide_eq_true hc]; rfl
      rw [hv]
      have HC := Lib.hid hc
      clear hb hc hv
      unfold HOp.val
      go_enter Tryz.func50, Tryz.ntmps50
      go_wp2
      go_quiet (fail)
      go_wp2
      go_ret
      exact ⟨by simp [HC.out], below_drewN hb0 _⟩
    · have tc : (c == tx) = false := by simpa using hc
      have hv : (decide (b = item) && !decide (c = tx)) = true := by rw [decide_eq_true hb, decide_eq_false hc]; rfl
      rw [hv]
      have HC := Lib.hid hc
      clear hb hc hv
      unfold HOp.val
      go_enter Tryz.func50, Tryz.ntmps50
      go_wp2
      go_quiet (fail)
      go_wp2
      go_ret
      exact ⟨by simp [HC.out], below_drewN hb0 _⟩
  · have tb : (b == item) = false := by simpa using hb
    have hv : (decide (b = item) && !decide (c = tx)) = false := by rw [decide_eq_false hb]; rfl
    rw [hv]
    clear hb hv
    unfold HOp.val
    go_enter Tryz.func50, Tryz.ntmps50
    go_wp2
    go_quiet (fail)
    go_wp2
    go_ret
    exact ⟨by simp, below_drewN hb0 _⟩
set_option maxHeartbeats 1000000 in
theorem read_any {tk tl : TypeId} {lo : Nat} {s : VSt} {L : VLay} {tag : Nat → Int × Nat} {k0 : Nat} (w : World) (H : VHeap (vT tk tl) lo w s L tag) (hk : VOk k0 s) (hk0 : k0 ≤ 1000) {d : Dl} (hd : d ∈ s.ds) (item : Int) :
    Calls Tryz.prog 36 #[.pointer (some ⟨L.g d.tx, 0, none⟩), .int .i64 item] w fun e w' => e = .returned (.bool (readD d item)) ∧ Below w.heap.size w w' := by
  have hD := H.deals d hd
  obtain ⟨As, cs, hvs⟩ := own_slice hD.seen
  have hB := hD.blk
  have hs := hD.seen
  rw [hvs] at hB hs
  have hsl := (hk.deals d hd).seen
  have hb1 : Below w.heap.size w ((w.alloc (.cells #[.pointer (some ⟨L.g d.tx, 0, none⟩)] 81)).alloc (.cells #[.int .i64 item] 3)) := ((Below.refl _ _).alloc (Nat.le_refl _) _).alloc (by simp) _
  have g0 := (Blk.new w 81 [.pointer (some ⟨L.g d.tx, 0, none⟩)]).alloc (.cells #[.int .i64 item] 3)
  have g1 : Blk ((w.alloc (.cells #[.pointer (some ⟨L.g d.tx, 0, none⟩)] 81)).alloc (.cells #[.int .i64 item] 3)) (w.heap.size + 1) 3 [.int .i64 item] := by
    have := Blk.new (w.alloc (.cells #[.pointer (some ⟨L.g d.tx, 0, none⟩)] 81)) 3 [.int .i64 item]
    simpa using this
  have hB1 := (hB.alloc (.cells #[.pointer (some ⟨L.g d.tx, 0, none⟩)] 81)).alloc (.cells #[.int .i64 item] 3)
  have hs1 := own_alloc (own_alloc hs (.cells #[.pointer (some ⟨L.g d.tx, 0, none⟩)] 81)) (.cells #[.int .i64 item] 3)
  have e0 := g0.cellS (i := 0) (v := .pointer (some ⟨L.g d.tx, 0, none⟩)) rfl
  have e3 := hB1.cellS (i := 3) (v := .slice As d.seen.length cs) rfl
  generalize hW : (w.alloc (.cells #[.pointer (some ⟨L.g d.tx, 0, none⟩)] 81)).alloc (.cells #[.int .i64 item] 3) = W at hb1 g0 g1 hB1 hs1 e0 e3
  have C := hide (containsFunc_seen As d.seen.length cs d.seen 50 #[.pointer (some ⟨w.heap.size + 1, 0, none⟩), .pointer (some ⟨w.heap.size, 0, none⟩)] (fun q => decide (q.what = item) && !decide (q.item = d.tx)) W (rd_own hs1) (by omega) call_read1 (fun q _ w' hb => read1_any (w.heap.size + 1) w.heap.size (L.g d.tx) item d.tx d.began d.ended (.slice As d.seen.length cs) (L.vw d.tx) (L.vp d.tx) q w' (g1.below hb g1.lt) (g0.below hb g0.lt) (hB1.below hb hB1.lt)))
  have HR : Hid (readD d item = d.seen.any fun q => decide (q.what = item) && !decide (q.item = d.tx)) := Lib.hid rfl
  rw [← HR.out] at C
  generalize readD d item = R at *
  generalize L.g d.tx = g at *
  clear HR hD hs hs1 hB hB1 g0 g1 H hk hvs hd
  subst hW
  go_enter Tryz.func36, Tryz.ntmps36
  go_wp2_with fail
  refine (unhide C).mono ?_
  rintro e w2 ⟨rfl, hb2⟩
  go_wp2
  go_ret
  exact ⟨rfl, hb1.trans (hb2.mono hb1.size)⟩
end Go.Proofs.YtfmdeahblaikoaaGreatDoor
