
/-
  CONTRACT of laneref2.Outcome (printed by wip/mkrout.py).
-/
import Derived.Test.YtfmdeahblaikoaaDoorRRunH
import Derived.Test.YtfmdeahblaikoaaDoorRR0
import Derived.Test.YtfmdeahblaikoaaDoorSink
import Derived.Deep.DeepCutAuto

namespace Go.Proofs.YtfmdeahblaikoaaDoor
open Go.RowKit

theorem own_len1 {w : World} {base : Nat} {e : TypeId} {v : Value} {n : Nat} {l : List HOp} (h : w.ownsRow base e 3 v n (cellsH l)) : l.length = n := by
  have := h.1
  rw [cellsH_length] at this; omega
theorem own_base {w : World} {base base' : Nat} {e : TypeId} {size : Nat} {v : Value} {n : Nat} {xs : List Value} (h : w.ownsRow base e size v n xs) (hb : base' ≤ base) : w.ownsRow base' e size v n xs :=
  ⟨h.1, h.2.imp id fun ⟨g, cap, cur, e1, e2, r⟩ => ⟨g, cap, cur, e1, Nat.le_trans hb e2, r⟩⟩
set_option maxRecDepth 100000 in
set_option maxHeartbeats 8000000 in
theorem rout_any (A : Option Addr) (n c : Nat) (ds : List Dl) (w : World) (hr : DRow w w.heap.size A n ds) (hn : n ≤ 41) (hd : ∀ d ∈ ds, d.seen.length ≤ 41 ∧ d.wrote.length ≤ 41 ∧ ∀ i ∈ d.wrote, 1 ≤ i ∧ i ≤ 6) :
    Calls Tryd.prog 38 #[.slice A n c, .bool false] w fun e w' => ∃ v1 v2 v3, e = .returned (.agg #[v1, v2, v3]) ∧ w'.ownsRow w.heap.size 3 1 v1 ds.length (cellsI (ds.map (·.tx))) ∧ w'.ownsRow w.heap.size 133 3 v2 (ds.flatMap (·.seen)).length (cellsH (ds.flatMap (·.seen))) ∧ w'.ownsRow w.heap.size 3 1 v3 6 (cellsI (lastOf ds)) ∧ Below w.heap.size w w' := by
  have HR := hide (fun w1 (hb : Below w.heap.size w w1) => hr.below hb)
  have HD := Lib.hid hd
  have HL := Lib.hid hr.1
  have hmk := make6
  clear hr hd
  have hq0 := ((Blk.new w 26 [.slice none 0 0, .slice none 0 0, .slice none 0 0]).alloc (.cells (cellsI (List.replicate 6 0)).toArray 3)).alloc (.cells #[.slice none 0 0, .slice none 0 0, .slice (some ⟨w.heap.size + 1, 0, none⟩) 6 6] 26)
  have hq1 := (Blk.new (w.alloc (.cells #[.slice none 0 0, .slice none 0 0, .slice none 0 0] 26)) 3 (cellsI (List.replicate 6 0))).alloc (.cells #[.slice none 0 0, .slice none 0 0, .slice (some ⟨w.heap.size + 1, 0, none⟩) 6 6] 26)
  have hq2 := Blk.new ((w.alloc (.cells #[.slice none 0 0, .slice none 0 0, .slice none 0 0] 26)).alloc (.cells (cellsI (List.replicate 6 0)).toArray 3)) 26 [.slice none 0 0, .slice none 0 0, .slice (some ⟨w.heap.size + 1, 0, none⟩) 6 6]
  have hb0 : Below w.heap.size w (((w.alloc (.cells #[.slice none 0 0, .slice none 0 0, .slice none 0 0] 26)).alloc (.cells (cellsI (List.replicate 6 0)).toArray 3)).alloc (.cells #[.slice none 0 0, .slice none 0 0, .slice (some ⟨w.heap.size + 1, 0, none⟩) 6 6] 26)) := (((Below.refl _ _).alloc (Nat.le_refl _) _).alloc (by simp) _).alloc (by simp; omega) _
  rw [show (w.alloc (.cells #[.slice none 0 0, .slice none 0 0, .slice none 0 0] 26)).heap.size = w.heap.size + 1 by simp] at hq1
  rw [show ((w.alloc (.cells #[.slice none 0 0, .slice none 0 0, .slice none 0 0] 26)).alloc (.cells (cellsI (List.replicate 6 0)).toArray 3)).heap.size = w.heap.size + 2 by simp] at hq2
  have HQ0 := hide hq0
  have HQ1 := hide hq1
  have HQ2 := hide hq2
  have HB0 := hide hb0
  clear hq0 hq1 hq2 hb0
  go_enter Tryd.func38, Tryd.ntmps38
  go_wp2
  clear hmk
  go_loopw [9] (fun s9 wr => ∃ (k : Nat) (v1 v2 : Value) (m : Nat), k ≤ n ∧ s9 = .int .i64 k ∧ m ≤ k * 41 ∧ Blk wr w.heap.size 26 [.slice none 0 0, .slice none 0 0, .slice none 0 0] ∧ Blk wr (w.heap.size + 1) 3 (cellsI (lastOf (ds.take k))) ∧ Blk wr (w.heap.size + 2) 26 [v1, v2, .slice (some ⟨w.heap.size + 1, 0, none⟩) 6 6] ∧ wr.ownsRow (w.heap.size + 3) 3 1 v1 k (cellsI ((ds.take k).map (·.tx))) ∧ wr.ownsRow (w.heap.size + 3) 133 3 v2 m (cellsH ((ds.take k).flatMap (·.seen))) ∧ Hid (∀ j, v1.ownBlock = some j → v2.ownBlock ≠ some j) ∧ Below w.heap.size w wr) (fun s9 _ => n - (intOf s9).toNat)
  case atStart => exact ⟨0, .slice none 0 0, .slice none 0 0, 0, Nat.zero_le _, rfl, Nat.zero_le _, unhide HQ0, unhide HQ1, unhide HQ2, World.ownsRow_nil _ _ _ _, World.ownsRow_nil _ _ _ _, Lib.hid (fun _ h => by cases h), unhide HB0⟩
  case round =>
    clear HQ0 HQ1 HQ2 HB0
    obtain ⟨k, v1, v2, m, hkn, rfl, hm, hB0, hB1, hB2, ho1, ho2, HNE, hbw⟩ := hrel
    by_cases hlt : k < n
    · obtain ⟨b, off, d, As, ns, cs, Aw, nw, cw, he, hb, hdk, c0, c1, c2x, c3, c4, h3, h4⟩ := (unhide HR wr hbw).2 k hlt
      cases he
      have HC := hide (fun w1 (hb1 : Below w.heap.size w w1) => (show w1.cell? ⟨b, off + k * 5, none⟩ = some (.int .i64 d.tx) ∧ w1.cell? ⟨b, off + k * 5 + 1, none⟩ = some (.int .i64 d.began) ∧ w1.cell? ⟨b, off + k * 5 + 2, none⟩ = some (.int .i64 d.ended) ∧ w1.cell? ⟨b, off + k * 5 + 3, none⟩ = some (.slice As ns cs) ∧ w1.cell? ⟨b, off + k * 5 + 4, none⟩ = some (.slice Aw nw cw) from by
        have e : ∀ p : Addr, p.block < w.heap.size → w1.cell? p = wr.cell? p := fun p hp => (hb1.cell hp).trans (hbw.cell hp).symm
        exact ⟨(e _ hb).trans c0, (e _ hb).trans c1, (e _ hb).trans c2x, (e _ hb).trans c3, (e _ hb).trans c4⟩))
      have HRS := hide (fun w1 (hb1 : Below w.heap.size w w1) => (show Rd w1 w1.heap.size 3 As ns (cellsH d.seen) from (h3.keep (fun p hp => (hb1.cell hp).trans (hbw.cell hp).symm)).more hb1.size))
      have HRW := hide (fun w1 (hb1 : Below w.heap.size w w1) => (show Rd w1 w.heap.size 1 Aw nw (cellsI d.wrote) from h4.keep (fun p hp => (hb1.cell hp).trans (hbw.cell hp).symm)))
      have hdm := HD.out d (List.mem_of_getElem? hdk)
      have hns : ns ≤ 41 := by rw [← h3.hlen]; exact hdm.1
      have HWI := Lib.hid hdm.2.2
      have HNW := Lib.hid h4.ilen
      have hnw : nw ≤ 41 := by rw [← h4.ilen]; exact hdm.2.1
      have HT1 : Hid (cellsI ((ds.take (k + 1)).map (·.tx)) = cellsI ((ds.take k).map (·.tx)) ++ cellsI [d.tx]) := Lib.hid (by rw [List.take_add_one, hdk]; simp [cellsI])
      have HT2 : Hid (cellsH ((ds.take (k + 1)).flatMap (·.seen)) = cellsH ((ds.take k).flatMap (·.seen)) ++ cellsH d.seen) := Lib.hid (by rw [List.take_add_one, hdk]; simp [cellsH])
      have HT3 : Hid (lastOf (ds.take (k + 1)) = setsL d.tx d.wrote (lastOf (ds.take k))) := Lib.hid (by rw [List.take_add_one, hdk]; exact lastOf_snoc _ _)
      clear c0 c1 c2x c3 c4
      obtain ⟨A1, c1, rfl⟩ := own_slice ho1
      obtain ⟨A2, c2, rfl⟩ := own_slice ho2
      have hz := hbw.size
      have hl1 := ho1.lt
      have hl2 := ho2.lt
      have hlt2 := hB2.lt
      have n2 : (0 : Int) ≤ (k : Int) := by omega
      have n3 : (k : Int) < (n : Int) := by omega
      clear hdk hdm h3 h4
      go_upto_region 16 with fail
      have hBo := hB2.drew
      have hbd := hbw.drew
      refine wp_region_noPanic ?_
      refine wp_region_till (fun w' => Blk w' (w.heap.size + 2) 26 [.slice A1 k c1, .slice A2 m c2, .slice (some ⟨w.heap.size + 1, 0, none⟩) 6 6] ∧ Below w.heap.size w w') 10 (by kernel_rfl) ⟨hBo, hbd⟩ (fun hS0 => ?_)
      refine wpTill_take 0 [8, 1, 0] (v := .pointer (some ⟨w.heap.size + 2, 0, none⟩)) rfl (by kernel_rfl) (by kernel_rfl) (by kernel_rfl) (by kernel_rfl) (by kernel_rfl) (by kernel_rfl) (fun _ _ _ h => h) hS0 (by rfl) (fun w1 hS1 => by obtain ⟨s1, s2⟩ := hS1; have z0 := s1.cellS (i := 0) (v := .slice A1 k c1) rfl; have z1 := s1.cellS (i := 1) (v := .slice A2 m c2) rfl; obtain ⟨y0, y1, y2, y3, y4⟩ := unhide HC w1 s2; clear s1 s2; go_simp) ?_
      simp only [Act.put]
      refine wpTill_take 1 [8, 1] (v := .slice A1 k c1) rfl (by kernel_rfl) (by kernel_rfl) (by kernel_rfl) (by kernel_rfl) (by kernel_rfl) (by kernel_rfl) (fun _ _ _ h => h) hS0 (by rfl) (fun w1 hS1 => by obtain ⟨s1, s2⟩ := hS1; have z0 := s1.cellS (i := 0) (v := .slice A1 k c1) rfl; have z1 := s1.cellS (i := 1) (v := .slice A2 m c2) rfl; obtain ⟨y0, y1, y2, y3, y4⟩ := unhide HC w1 s2; clear s1 s2; go_simp) ?_
      simp only [Act.put]
      refine wpTill_take 2 [8, 7, 6, 5, 4, 2] (v := .slice (some ⟨b, off, none⟩) n c) rfl (by kernel_rfl) (by kernel_rfl) (by kernel_rfl) (by kernel_rfl) (by kernel_rfl) (by kernel_rfl) (fun _ _ _ h => h) hS0 (by rfl) (fun w1 hS1 => by obtain ⟨s1, s2⟩ := hS1; have z0 := s1.cellS (i := 0) (v := .slice A1 k c1) rfl; have z1 := s1.cellS (i := 1) (v := .slice A2 m c2) rfl; obtain ⟨y0, y1, y2, y3, y4⟩ := unhide HC w1 s2; clear s1 s2; go_simp) ?_
      simp only [Act.put]
      refine wpTill_take 3 [8, 7, 6, 5, 4, 3] (v := .int .i64 k) rfl (by kernel_rfl) (by kernel_rfl) (by kernel_rfl) (by kernel_rfl) (by kernel_rfl) (by kernel_rfl) (fun _ _ _ h => h) hS0 (by rfl) (fun w1 hS1 => by obtain ⟨s1, s2⟩ := hS1; have z0 := s1.cellS (i := 0) (v := .slice A1 k c1) rfl; have z1 := s1.cellS (i := 1) (v := .slice A2 m c2) rfl; obtain ⟨y0, y1, y2, y3, y4⟩ := unhide HC w1 s2; clear s1 s2; go_simp) ?_
      simp only [Act.put]
      refine wpTill_take 4 [8, 7, 6, 5, 4] (v := .pointer (some ⟨b, off + k * 5, none⟩)) rfl (by kernel_rfl) (by kernel_rfl) (by kernel_rfl) (by kernel_rfl) (by kernel_rfl) (by kernel_rfl) (fun _ _ _ h => h) hS0 (by rfl) (fun w1 hS1 => by obtain ⟨s1, s2⟩ := hS1; have z0 := s1.cellS (i := 0) (v := .slice A1 k c1) rfl; have z1 := s1.cellS (i := 1) (v := .slice A2 m c2) rfl; obtain ⟨y0, y1, y2, y3, y4⟩ := unhide HC w1 s2; clear s1 s2; go_simp) ?_
      simp only [Act.put]
      refine wpTill_take 5 [8, 7, 6, 5] (v := .pointer (some ⟨b, off + k * 5, none⟩)) rfl (by kernel_rfl) (by kernel_rfl) (by kernel_rfl) (by kernel_rfl) (by kernel_rfl) (by kernel_rfl) (fun _ _ _ h => h) hS0 (by rfl) (fun w1 hS1 => by obtain ⟨s1, s2⟩ := hS1; have z0 := s1.cellS (i := 0) (v := .slice A1 k c1) rfl; have z1 := s1.cellS (i := 1) (v := .slice A2 m c2) rfl; obtain ⟨y0, y1, y2, y3, y4⟩ := unhide HC w1 s2; clear s1 s2; go_simp) ?_
      simp only [Act.put]
      refine wpTill_take 6 [8, 7, 6] (v := .int .i64 d.tx) rfl (by kernel_rfl) (by kernel_rfl) (by kernel_rfl) (by kernel_rfl) (by kernel_rfl) (by kernel_rfl) (fun _ _ _ h => h) hS0 (by rfl) (fun w1 hS1 => by obtain ⟨s1, s2⟩ := hS1; have z0 := s1.cellS (i := 0) (v := .slice A1 k c1) rfl; have z1 := s1.cellS (i := 1) (v := .slice A2 m c2) rfl; obtain ⟨y0, y1, y2, y3, y4⟩ := unhide HC w1 s2; clear s1 s2; go_simp) ?_
      simp only [Act.put]
      have hOd : (wr.alloc (.cells #[.int .i64 d.tx] 3)).drew.ownsRow (w.heap.size + 3) 3 1 (.slice A1 k c1) k (cellsI ((ds.take k).map fun d : Dl => d.tx)) := own_alloc ho1 (.cells #[.int .i64 d.tx] 3)
      have hNd : Rd (wr.alloc (.cells #[.int .i64 d.tx] 3)).drew (wr.alloc (.cells #[.int .i64 d.tx] 3)).drew.heap.size 1 (some ⟨wr.heap.size, 0, none⟩) 1 (cellsI [d.tx]) := (show Rd (wr.alloc (.cells #[.int .i64 d.tx] 3)).drew (wr.heap.size + 1) 1 (some ⟨wr.heap.size, 0, none⟩) 1 (cellsI [d.tx]) from rd_new (size := 1) (n := 1) wr 3 (cellsI [d.tx]) rfl).more (by simp)
      have hbd1 := (hbw.alloc hz (.cells #[.int .i64 d.tx] 3)).drew
      have hBa := (hB2.alloc (.cells #[.int .i64 d.tx] 3)).drew
      refine wpTill_one 7 rfl (by kernel_rfl) (fun K hK => ?_)
      have HK := Lib.hid hK
      clear hK
      go_simp
      refine HK.out _ _ (fun _ => ⟨hBa, hbd1⟩) ?_
      clear HK K
      refine wpTill_one 8 rfl (by kernel_rfl) (fun K hK => ?_)
      have HK2 := Lib.hid hK
      clear hK
      refine step_app4 rfl (.tmp 46) (.tmp 52) _ rfl (w.heap.size + 3) slt_ints (n := k) (xs := cellsI ((ds.take k).map fun d : Dl => d.tx)) (m := 1) (news := cellsI [d.tx]) rfl hOd rfl hNd (oneI _) (by omega) (by simp; omega) ?_
      intro v3 w3 hown3 hg3 hb3 hat3
      obtain ⟨A3, c3, rfl⟩ := own_slice hown3
      have hbd3 : Below w.heap.size w w3 := hbd1.trans (hb3.mono (by omega))
      have q0 := hBa.grown hg3 (fun j hj e => by have := hl1 j hj; omega)
      have k0 := q0.cellS (i := 0) (v := .slice A1 k c1) rfl
      have k1 := q0.frozen 0
      refine HK2.out _ _ (fun _ => ⟨q0, hbd3⟩) ?_
      clear HK2 K
      simp only [Act.put]
      refine wpTill_one 9 rfl (by kernel_rfl) (fun K hK => ?_)
      have HK2 := Lib.hid hK
      clear hK
      go_simp
      refine HK2.out _ _ (fun _ => ⟨q0, hbd3⟩) ?_
      clear HK2 K
      refine wpTill_one 10 rfl (by kernel_rfl) (fun K hK => ?_)
      have HK2 := Lib.hid hK
      clear hK
      go_simp
      refine HK2.out _ _ (fun h => absurd rfl h) ?_
      clear HK2 K
      refine wpTill_done (by kernel_rfl) (NoPanic.normal ?_) _
      have hd0 : Below wr.heap.size wr (wr.alloc (.cells #[.int .i64 d.tx] 3)).drew := ((Below.refl _ _).alloc (Nat.le_refl _) _).drew
      have hbw3 : Below w.heap.size w (w3.setCell ⟨w.heap.size + 2, 0, none⟩ (.slice A3 (k + 1) c3)) := hbd3.setCell (p := ⟨w.heap.size + 2, 0, none⟩) (by simp) _
      have hB2' : Blk (w3.setCell ⟨w.heap.size + 2, 0, none⟩ (.slice A3 (k + 1) c3)) (w.heap.size + 2) 26 [.slice A3 (k + 1) c3, .slice A2 m c2, .slice (some ⟨w.heap.size + 1, 0, none⟩) 6 6] := q0.put 0 (.slice A3 (k + 1) c3)
      have ho1' : (w3.setCell ⟨w.heap.size + 2, 0, none⟩ (.slice A3 (k + 1) c3)).ownsRow (w.heap.size + 3) 3 1 (.slice A3 (k + 1) c3) (k + 1) (cellsI ((ds.take (k + 1)).map (·.tx))) := own_far (by rw [HT1.out]; exact hown3) (by simp) _
      have ho2' : w3.ownsRow (w.heap.size + 3) 133 3 (.slice A2 m c2) m (cellsH ((ds.take k).flatMap (·.seen))) := (own_below ho2 hd0 (Nat.le_refl _)).kept hg3 (by
        cases hv : (Value.slice A2 m c2).ownBlock with
        | none => exact .inl rfl
        | some j => exact .inr fun e => HNE.out j e.symm hv)
      have ho2' := own_far ho2' (p := ⟨w.heap.size + 2, 0, none⟩) (by simp) (.slice A3 (k + 1) c3)
      have hB0' : Blk (w3.setCell ⟨w.heap.size + 2, 0, none⟩ (.slice A3 (k + 1) c3)) w.heap.size 26 [.slice none 0 0, .slice none 0 0, .slice none 0 0] := (((hB0.alloc (.cells #[.int .i64 d.tx] 3)).drew.grown hg3 (fun j hj e => by have := hl1 j hj; omega))).far (by simp) _
      have hB1' : Blk (w3.setCell ⟨w.heap.size + 2, 0, none⟩ (.slice A3 (k + 1) c3)) (w.heap.size + 1) 3 (cellsI (lastOf (ds.take k))) := (((hB1.alloc (.cells #[.int .i64 d.tx] 3)).drew.grown hg3 (fun j hj e => by have := hl1 j hj; omega))).far (by simp) _
      have HNE3 : Hid (∀ j, (Value.slice A3 (k + 1) c3).ownBlock = some j → (Value.slice A2 m c2).ownBlock ≠ some j) := Lib.hid (fun j hj e => by
        rcases hat3 with h | h
        · exact HNE.out j (h.symm.trans hj) e
        · rw [h] at hj
          have := hl2 j e
          injection hj with hj
          simp at hj
          omega)
      generalize hW4 : w3.setCell ⟨w.heap.size + 2, 0, none⟩ (.slice A3 (k + 1) c3) = w4 at hbw3 hB2' ho1' ho2' hB0' hB1' ⊢
      clear hW4 q0 k0 k1 hown3 hg3 hb3 hat3 hNd hBa hOd hBo hd0 hbd hbd1 hbd3 ho1 ho2 hB0 hB1 hB2 hbw HNE hl1 hl2 hz hlt2
      have hl1 := ho1'.lt
      have hl2 := ho2'.lt
      have hz4 := hbw3.size
      have hlt2 := hB2'.lt
      go_upto_region 17 with fail
      have hBo := hB2'.drew
      have hbd := hbw3.drew
      refine wp_region_noPanic ?_
      refine wp_region_till (fun w' => Blk w' (w.heap.size + 2) 26 [.slice A3 (k + 1) c3, .slice A2 m c2, .slice (some ⟨w.heap.size + 1, 0, none⟩) 6 6] ∧ Below w.heap.size w w') 9 (by kernel_rfl) ⟨hBo, hbd⟩ (fun hS0 => ?_)
      refine wpTill_take 0 [7, 1, 0] (v := .pointer (some ⟨w.heap.size + 2, 1, none⟩)) rfl (by kernel_rfl) (by kernel_rfl) (by kernel_rfl) (by kernel_rfl) (by kernel_rfl) (by kernel_rfl) (fun _ _ _ h => h) hS0 (by rfl) (fun w1 hS1 => by obtain ⟨s1, s2⟩ := hS1; have z0 := s1.cellS (i := 0) (v := .slice A3 (k + 1) c3) rfl; have z1 := s1.cellS (i := 1) (v := .slice A2 m c2) rfl; obtain ⟨y0, y1, y2, y3, y4⟩ := unhide HC w1 s2; clear s1 s2; go_simp) ?_
      simp only [Act.put]
      refine wpTill_take 1 [7, 1] (v := .slice A2 m c2) rfl (by kernel_rfl) (by kernel_rfl) (by kernel_rfl) (by kernel_rfl) (by kernel_rfl) (by kernel_rfl) (fun _ _ _ h => h) hS0 (by rfl) (fun w1 hS1 => by obtain ⟨s1, s2⟩ := hS1; have z0 := s1.cellS (i := 0) (v := .slice A3 (k + 1) c3) rfl; have z1 := s1.cellS (i := 1) (v := .slice A2 m c2) rfl; obtain ⟨y0, y1, y2, y3, y4⟩ := unhide HC w1 s2; clear s1 s2; go_simp) ?_
      simp only [Act.put]
      refine wpTill_take 2 [7, 6, 5, 4, 2] (v := .slice (some ⟨b, off, none⟩) n c) rfl (by kernel_rfl) (by kernel_rfl) (by kernel_rfl) (by kernel_rfl) (by kernel_rfl) (by kernel_rfl) (fun _ _ _ h => h) hS0 (by rfl) (fun w1 hS1 => by obtain ⟨s1, s2⟩ := hS1; have z0 := s1.cellS (i := 0) (v := .slice A3 (k + 1) c3) rfl; have z1 := s1.cellS (i := 1) (v := .slice A2 m c2) rfl; obtain ⟨y0, y1, y2, y3, y4⟩ := unhide HC w1 s2; clear s1 s2; go_simp) ?_
      simp only [Act.put]
      refine wpTill_take 3 [7, 6, 5, 4, 3] (v := .int .i64 k) rfl (by kernel_rfl) (by kernel_rfl) (by kernel_rfl) (by kernel_rfl) (by kernel_rfl) (by kernel_rfl) (fun _ _ _ h => h) hS0 (by rfl) (fun w1 hS1 => by obtain ⟨s1, s2⟩ := hS1; have z0 := s1.cellS (i := 0) (v := .slice A3 (k + 1) c3) rfl; have z1 := s1.cellS (i := 1) (v := .slice A2 m c2) rfl; obtain ⟨y0, y1, y2, y3, y4⟩ := unhide HC w1 s2; clear s1 s2; go_simp) ?_
      simp only [Act.put]
      refine wpTill_take 4 [7, 6, 5, 4] (v := .pointer (some ⟨b, off + k * 5, none⟩)) rfl (by kernel_rfl) (by kernel_rfl) (by kernel_rfl) (by kernel_rfl) (by kernel_rfl) (by kernel_rfl) (fun _ _ _ h => h) hS0 (by rfl) (fun w1 hS1 => by obtain ⟨s1, s2⟩ := hS1; have z0 := s1.cellS (i := 0) (v := .slice A3 (k + 1) c3) rfl; have z1 := s1.cellS (i := 1) (v := .slice A2 m c2) rfl; obtain ⟨y0, y1, y2, y3, y4⟩ := unhide HC w1 s2; clear s1 s2; go_simp) ?_
      simp only [Act.put]
      refine wpTill_take 5 [7, 6, 5] (v := .pointer (some ⟨b, off + k * 5 + 3, none⟩)) rfl (by kernel_rfl) (by kernel_rfl) (by kernel_rfl) (by kernel_rfl) (by kernel_rfl) (by kernel_rfl) (fun _ _ _ h => h) hS0 (by rfl) (fun w1 hS1 => by obtain ⟨s1, s2⟩ := hS1; have z0 := s1.cellS (i := 0) (v := .slice A3 (k + 1) c3) rfl; have z1 := s1.cellS (i := 1) (v := .slice A2 m c2) rfl; obtain ⟨y0, y1, y2, y3, y4⟩ := unhide HC w1 s2; clear s1 s2; go_simp) ?_
      simp only [Act.put]
      refine wpTill_take 6 [7, 6] (v := .slice As ns cs) rfl (by kernel_rfl) (by kernel_rfl) (by kernel_rfl) (by kernel_rfl) (by kernel_rfl) (by kernel_rfl) (fun _ _ _ h => h) hS0 (by rfl) (fun w1 hS1 => by obtain ⟨s1, s2⟩ := hS1; have z0 := s1.cellS (i := 0) (v := .slice A3 (k + 1) c3) rfl; have z1 := s1.cellS (i := 1) (v := .slice A2 m c2) rfl; obtain ⟨y0, y1, y2, y3, y4⟩ := unhide HC w1 s2; clear s1 s2; go_simp) ?_
      simp only [Act.put]
      have hOd : w4.drew.ownsRow (w.heap.size + 3) 133 3 (.slice A2 m c2) m (cellsH ((ds.take k).flatMap (·.seen))) := ho2'
      have hRd : Rd w4.drew w4.drew.heap.size 3 As ns (cellsH d.seen) := unhide HRS w4.drew hbd
      refine wpTill_one 7 rfl (by kernel_rfl) (fun K hK => ?_)
      have HK2 := Lib.hid hK
      clear hK
      refine step_app4 (v := .slice A2 m c2) (A := As) (c := cs) rfl (.tmp 56) (.tmp 61) _ rfl (w.heap.size + 3) slt_seen (n := m) (xs := cellsH ((ds.take k).flatMap fun d : Dl => d.seen)) (m := ns) (news := cellsH d.seen) (by go_simp) hOd (by go_simp) hRd (oneH _) (by omega) (by simp; omega) ?_
      intro v5 w5 hown5 hg5 hb5 hat5
      obtain ⟨A5, c5, rfl⟩ := own_slice hown5
      have hbd5 : Below w.heap.size w w5 := hbd.trans (hb5.mono (by omega))
      have q0 := hBo.grown hg5 (fun j hj e => by have := hl2 j hj; omega)
      have k0 := q0.cellS (i := 1) (v := .slice A2 m c2) rfl
      have k1 := q0.frozen 1
      refine HK2.out _ _ (fun _ => ⟨q0, hbd5⟩) ?_
      clear HK2 K
      simp only [Act.put]
      refine wpTill_one 8 rfl (by kernel_rfl) (fun K hK => ?_)
      have HK2 := Lib.hid hK
      clear hK
      go_simp
      refine HK2.out _ _ (fun _ => ⟨q0, hbd5⟩) ?_
      clear HK2 K
      refine wpTill_one 9 rfl (by kernel_rfl) (fun K hK => ?_)
      have HK2 := Lib.hid hK
      clear hK
      go_simp
      refine HK2.out _ _ (fun h => absurd rfl h) ?_
      clear HK2 K
      refine wpTill_done (by kernel_rfl) (NoPanic.normal ?_) _
      have hd4 : Below w4.heap.size w4 w4.drew := (Below.refl _ _).drew
      have hbw5 : Below w.heap.size w (w5.setCell ⟨w.heap.size + 2, 1, none⟩ (.slice A5 (m + ns) c5)) := hbd5.setCell (p := ⟨w.heap.size + 2, 1, none⟩) (by simp) _
      have hB2x : Blk (w5.setCell ⟨w.heap.size + 2, 1, none⟩ (.slice A5 (m + ns) c5)) (w.heap.size + 2) 26 [.slice A3 (k + 1) c3, .slice A5 (m + ns) c5, .slice (some ⟨w.heap.size + 1, 0, none⟩) 6 6] := q0.put 1 (.slice A5 (m + ns) c5)
      have ho2x : (w5.setCell ⟨w.heap.size + 2, 1, none⟩ (.slice A5 (m + ns) c5)).ownsRow (w.heap.size + 3) 133 3 (.slice A5 (m + ns) c5) (m + ns) (cellsH ((ds.take (k + 1)).flatMap (·.seen))) := own_far (by rw [HT2.out]; exact hown5) (by simp) _
      have ho1x : w5.ownsRow (w.heap.size + 3) 3 1 (.slice A3 (k + 1) c3) (k + 1) (cellsI ((ds.take (k + 1)).map (·.tx))) := (own_below ho1' hd4 (Nat.le_refl _)).kept hg5 (by
        cases hv : (Value.slice A3 (k + 1) c3).ownBlock with
        | none => exact .inl rfl
        | some j => exact .inr fun e => HNE3.out j hv e.symm)
      have ho1x := own_far ho1x (p := ⟨w.heap.size + 2, 1, none⟩) (by simp) (.slice A5 (m + ns) c5)
      have hB0x : Blk (w5.setCell ⟨w.heap.size + 2, 1, none⟩ (.slice A5 (m + ns) c5)) w.heap.size 26 [.slice none 0 0, .slice none 0 0, .slice none 0 0] := (hB0'.drew.grown hg5 (fun j hj e => by have := hl2 j hj; omega)).far (by simp) _
      have hB1x : Blk (w5.setCell ⟨w.heap.size + 2, 1, none⟩ (.slice A5 (m + ns) c5)) (w.heap.size + 1) 3 (cellsI (setsL d.tx (d.wrote.take 0) (lastOf (ds.take k)))) := (hB1'.drew.grown hg5 (fun j hj e => by have := hl2 j hj; omega)).far (by simp) _
      have HNE5 : Hid (∀ j, (Value.slice A3 (k + 1) c3).ownBlock = some j → (Value.slice A5 (m + ns) c5).ownBlock ≠ some j) := Lib.hid (fun j hj e => by
        rcases hat5 with h | h
        · exact HNE3.out j hj (h.symm.trans e)
        · rw [h] at e
          have := hl1 j hj
          injection e with e
          simp at e
          omega)
      generalize hW6 : w5.setCell ⟨w.heap.size + 2, 1, none⟩ (.slice A5 (m + ns) c5) = w6 at hbw5 hB2x ho1x ho2x hB0x hB1x ⊢
      clear hW6 q0 k0 k1 hown5 hg5 hb5 hat5 hOd hRd hBo hd4 hbd hbd5 hl1 hl2 ho1' ho2' hB0' hB1' hB2' hbw3 hz4 hlt2 HNE3
      have hm' : m + ns ≤ (k + 1) * 41 := by omega
      have HL6 : Hid (∀ j, (setsL d.tx (d.wrote.take j) (lastOf (ds.take k))).length = 6) := Lib.hid (fun j => by rw [setsL_len]; exact lastOf_len _)
      go_wp2
      go_loopw [10] (fun s10 wr => ∃ (j : Nat), j ≤ nw ∧ s10 = .int .i64 j ∧ Blk wr w.heap.size 26 [.slice none 0 0, .slice none 0 0, .slice none 0 0] ∧ Blk wr (w.heap.size + 1) 3 (cellsI (setsL d.tx (d.wrote.take j) (lastOf (ds.take k)))) ∧ Blk wr (w.heap.size + 2) 26 [.slice A3 (k + 1) c3, .slice A5 (m + ns) c5, .slice (some ⟨w.heap.size + 1, 0, none⟩) 6 6] ∧ wr.ownsRow (w.heap.size + 3) 3 1 (.slice A3 (k + 1) c3) (k + 1) (cellsI ((ds.take (k + 1)).map (·.tx))) ∧ wr.ownsRow (w.heap.size + 3) 133 3 (.slice A5 (m + ns) c5) (m + ns) (cellsH ((ds.take (k + 1)).flatMap (·.seen))) ∧ Below w.heap.size w wr) (fun s10 _ => nw - (intOf s10).toNat)
      case atStart => exact ⟨0, Nat.zero_le _, rfl, hB0x, hB1x, hB2x, ho1x, ho2x, hbw5⟩
      case round =>
        clear hB0x hB1x hB2x ho1x ho2x hbw5
        obtain ⟨j, hj, rfl, hB0, hB1, hB2, ho1, ho2, hbw⟩ := hrel
        obtain ⟨y0, y1, y2, y3, y4⟩ := unhide HC wr hbw
        by_cases hlt4 : j < nw
        · obtain ⟨b8, off8, x, he8, hb8, hx8, x0⟩ := (unhide HRW wr hbw).int (k := j) hlt4
          cases he8
          have hit := HWI.out x (List.mem_of_getElem? hx8)
          obtain ⟨jj, hjj⟩ : ∃ jj : Nat, x.toNat - 1 = jj := ⟨_, rfl⟩
          have HS2 : Hid (setsL d.tx (d.wrote.take (j + 1)) (lastOf (ds.take k)) = (setsL d.tx (d.wrote.take j) (lastOf (ds.take k))).set jj d.tx) := Lib.hid (by rw [List.take_add_one, hx8, ← hjj]; exact setsL_snoc _ _ _ _)
          obtain ⟨v, hv⟩ : ∃ v, (setsL d.tx (d.wrote.take j) (lastOf (ds.take k)))[jj]? = some v := ⟨_, List.getElem?_eq_getElem (by rw [HL6.out j]; omega)⟩
          have ev : wr.cell? ⟨w.heap.size + 1, jj, none⟩ = some (.int .i64 v) := hB1.cellS (by rw [cellsI, List.getElem?_map, hv]; rfl)
          have fv : wr.frozen? ⟨w.heap.size + 1, jj, none⟩ = false := hB1.frozen _
          have z2 := hB2.cellS (i := 2) (v := .slice (some ⟨w.heap.size + 1, 0, none⟩) 6 6) rfl
          have i1 : IntKind.i64.wrap (x - 1) = (jj : Int) := by
            rw [show x - 1 = (jj : Int) by omega]; exact IntWalk.i64_in _ (by omega)
          have i2 : (0 : Int) ≤ (jj : Int) := by omega
          have i3 : (jj : Int) < 6 := by omega
          have m2 : (0 : Int) ≤ (j : Int) := by omega
          have m3 : (j : Int) < (nw : Int) := by omega
          have hne : b ≠ w.heap.size + 1 := by omega
          have hne8 : b8 ≠ w.heap.size + 1 := by omega
          have ev' : wr.drew.cell? ⟨w.heap.size + 1, jj, none⟩ = some (.int .i64 v) := ev
          have fv' : wr.drew.frozen? ⟨w.heap.size + 1, jj, none⟩ = false := fv
          have hs0 : (wr.drew.setCell ⟨w.heap.size + 1, jj, none⟩ (.int .i64 d.tx)).cell? ⟨b, off + k * 5, none⟩ = some (.int .i64 d.tx) := (World.cell?_setCell_far _ _ _ _ (show w.heap.size + 1 ≠ b from fun e => hne e.symm)).trans y0
          have hs4 : (wr.drew.setCell ⟨w.heap.size + 1, jj, none⟩ (.int .i64 d.tx)).cell? ⟨b, off + k * 5 + 4, none⟩ = some (.slice (some ⟨b8, off8, none⟩) nw cw) := (World.cell?_setCell_far _ _ _ _ (show w.heap.size + 1 ≠ b from fun e => hne e.symm)).trans y4
          have hsx : (wr.drew.setCell ⟨w.heap.size + 1, jj, none⟩ (.int .i64 d.tx)).cell? ⟨b8, off8 + j, none⟩ = some (.int .i64 x) := (World.cell?_setCell_far _ _ _ _ (show w.heap.size + 1 ≠ b8 from fun e => hne8 e.symm)).trans x0
          have hsz : (wr.drew.setCell ⟨w.heap.size + 1, jj, none⟩ (.int .i64 d.tx)).cell? ⟨w.heap.size + 2, 2, none⟩ = some (.slice (some ⟨w.heap.size + 1, 0, none⟩) 6 6) := (World.cell?_setCell_far _ _ _ _ (show w.heap.size + 1 ≠ w.heap.size + 2 by omega)).trans z2
          have g1 : Blk (wr.drew.setCell ⟨w.heap.size + 1, jj, none⟩ (.int .i64 d.tx)) (w.heap.size + 1) 3 (cellsI (setsL d.tx (d.wrote.take (j + 1)) (lastOf (ds.take k)))) := by
            have := hB1.drew.put jj (.int .i64 d.tx)
            rw [HS2.out]
            unfold cellsI at this ⊢
            rw [List.map_set]; exact this
          have g0 := hB0.drew.far (p := ⟨w.heap.size + 1, jj, none⟩) (by simp) (.int .i64 d.tx)
          have g2 := hB2.drew.far (p := ⟨w.heap.size + 1, jj, none⟩) (by simp) (.int .i64 d.tx)
          have p1 : (wr.drew.setCell ⟨w.heap.size + 1, jj, none⟩ (.int .i64 d.tx)).ownsRow (w.heap.size + 3) 3 1 (.slice A3 (k + 1) c3) (k + 1) (cellsI ((ds.take (k + 1)).map (·.tx))) := own_far (w := wr.drew) ho1 (by simp) _
          have p2 : (wr.drew.setCell ⟨w.heap.size + 1, jj, none⟩ (.int .i64 d.tx)).ownsRow (w.heap.size + 3) 133 3 (.slice A5 (m + ns) c5) (m + ns) (cellsH ((ds.take (k + 1)).flatMap (·.seen))) := own_far (w := wr.drew) ho2 (by simp) _
          have hbx : Below w.heap.size w (wr.drew.setCell ⟨w.heap.size + 1, jj, none⟩ (.int .i64 d.tx)) := hbw.drew.setCell (p := ⟨w.heap.size + 1, jj, none⟩) (by simp) _
          have HG := hide (And.intro g0 (And.intro g1 (And.intro g2 (And.intro p1 (And.intro p2 hbx)))))
          clear hx8 hit hjj hv g0 g1 g2 p1 p2 hbx hB0 hB1 hB2 ho1 ho2 hne hne8
          go_wp2
          go_region_held3 (fun w' => w'.cell? ⟨b, off + k * 5, none⟩ = some (.int .i64 d.tx) ∧ w'.cell? ⟨b, off + k * 5 + 4, none⟩ = some (.slice (some ⟨b8, off8, none⟩) nw cw) ∧ w'.cell? ⟨b8, off8 + j, none⟩ = some (.int .i64 x) ∧ w'.cell? ⟨w.heap.size + 2, 2, none⟩ = some (.slice (some ⟨w.heap.size + 1, 0, none⟩) 6 6)) (first | exact ⟨y0, y4, x0, z2⟩ | exact ⟨hs0, hs4, hsx, hsz⟩ | go_keep) (fail)
          go_wp2
          go_roundw
          case rel => exact ⟨j + 1, by omega, by go_num, (unhide HG).1, (unhide HG).2.1, (unhide HG).2.2.1, (unhide HG).2.2.2.1, (unhide HG).2.2.2.2.1, (unhide HG).2.2.2.2.2⟩
          case measure => simp [intOf]; omega
        · have hB1 : Blk wr (w.heap.size + 1) 3 (cellsI (lastOf (ds.take (k + 1)))) := by
            rw [List.take_of_length_le (l := d.wrote) (by rw [HNW.out]; omega)] at hB1
            rw [HT3.out]; exact hB1
          have HG := hide (And.intro hB0 (And.intro hB1 (And.intro hB2 (And.intro ho1 (And.intro ho2 hbw)))))
          clear hB0 hB1 hB2 ho1 ho2
          go_wp2
          go_roundw
          case rel => exact ⟨k + 1, _, _, _, by omega, by go_num, hm', (unhide HG).1, (unhide HG).2.1, (unhide HG).2.2.1, (unhide HG).2.2.2.1, (unhide HG).2.2.2.2.1, HNE5, (unhide HG).2.2.2.2.2⟩
          case measure => simp [intOf]; omega
    · obtain rfl : k = n := by omega
      have HT : Hid (ds.take k = ds) := Lib.hid (List.take_of_length_le (by rw [HL.out]; omega))
      rw [HT.out] at hB1 ho1 ho2
      obtain ⟨A1, c1, rfl⟩ := own_slice ho1
      obtain ⟨A2, c2, rfl⟩ := own_slice ho2
      have HM := Lib.hid (own_len1 ho2)
      have hz := hbw.size
      have z0 := hB2.cellS (i := 0) (v := .slice A1 k c1) rfl
      have z1 := hB2.cellS (i := 1) (v := .slice A2 m c2) rfl
      have z2 := hB2.cellS (i := 2) (v := .slice (some ⟨w.heap.size + 1, 0, none⟩) 6 6) rfl
      have x0 := hB0.cellS (i := 0) (v := .slice none 0 0) rfl
      have x1 := hB0.cellS (i := 1) (v := .slice none 0 0) rfl
      have x2 := hB0.cellS (i := 2) (v := .slice none 0 0) rfl
      have f0 := hB0.frozen 0
      have f1 := hB0.frozen 1
      have f2 := hB0.frozen 2
      have hR := ((hB0.put 0 (.slice A1 k c1)).put 1 (.slice A2 m c2)).put 2 (.slice (some ⟨w.heap.size + 1, 0, none⟩) 6 6)
      have r0 := hR.cellS (i := 0) (v := .slice A1 k c1) rfl
      have r1 := hR.cellS (i := 1) (v := .slice A2 m c2) rfl
      have r2 := hR.cellS (i := 2) (v := .slice (some ⟨w.heap.size + 1, 0, none⟩) 6 6) rfl
      have hbx := ((hbw.setCell (p := ⟨w.heap.size, 0, none⟩) (Nat.le_refl _) (.slice A1 k c1)).setCell (p := ⟨w.heap.size, 1, none⟩) (Nat.le_refl _) (.slice A2 m c2)).setCell (p := ⟨w.heap.size, 2, none⟩) (Nat.le_refl _) (.slice (some ⟨w.heap.size + 1, 0, none⟩) 6 6)
      have o1 := own_far (own_far (own_far ho1 (p := ⟨w.heap.size, 0, none⟩) (by simp) (.slice A1 k c1)) (p := ⟨w.heap.size, 1, none⟩) (by simp) (.slice A2 m c2)) (p := ⟨w.heap.size, 2, none⟩) (by simp) (.slice (some ⟨w.heap.size + 1, 0, none⟩) 6 6)
      have o2 := own_far (own_far (own_far ho2 (p := ⟨w.heap.size, 0, none⟩) (by simp) (.slice A1 k c1)) (p := ⟨w.heap.size, 1, none⟩) (by simp) (.slice A2 m c2)) (p := ⟨w.heap.size, 2, none⟩) (by simp) (.slice (some ⟨w.heap.size + 1, 0, none⟩) 6 6)
      have o3 := own_blk (((hB1.far (p := ⟨w.heap.size, 0, none⟩) (by simp) (.slice A1 k c1)).far (p := ⟨w.heap.size, 1, none⟩) (by simp) (.slice A2 m c2)).far (p := ⟨w.heap.size, 2, none⟩) (by simp) (.slice (some ⟨w.heap.size + 1, 0, none⟩) 6 6)) (base := w.heap.size) (size := 1) (n := 6) (by omega) (by decide) (by rw [cellsI, List.length_map]; exact lastOf_len _)
      have o1 := own_base o1 (show w.heap.size ≤ w.heap.size + 3 by omega)
      have o2 := own_base o2 (show w.heap.size ≤ w.heap.size + 3 by omega)
      have HO := hide (And.intro o1 (And.intro o2 o3))
      clear o1 o2 o3 ho1 ho2 hR hB1
      go_wp2
      refine bodyPost_ret (v := .agg #[.slice A1 k c1, .slice A2 m c2, .slice (some ⟨w.heap.size + 1, 0, none⟩) 6 6]) (by simp [results, Tryd.results38, go_sem, r0, r1, r2]) rfl ?_
      exact ⟨_, _, _, rfl, by rw [HL.out]; exact (unhide HO).1, by rw [HM.out]; exact (unhide HO).2.1, (unhide HO).2.2, hbx⟩
end Go.Proofs.YtfmdeahblaikoaaDoor
