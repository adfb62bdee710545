
/-
  CONTRACT of valid.Out, in a run's heap: who is done, what they saw, who wrote last.
-/
import Derived.Test.YtfmdeahblaikoaaDoorValidPlay
import Derived.Test.YtfmdeahblaikoaaDoorVQ3

namespace Go.Proofs.YtfmdeahblaikoaaDoor
open Go.RowKit

/-- What a deal saw, by its number. -/
def seenT (s : VSt) (t : Int) : List HOp := ((dget s.ds t).getD ⟨t, 0, 0, [], [], []⟩).seen
theorem seenOf_T (s : VSt) : seenOf s = s.dn.flatMap (seenT s) := by
  unfold seenOf doneD
  rw [List.flatMap_map]; rfl
theorem flat_take {l : List Int} {f : Int → List HOp} {k : Nat} {t : Int} (ht : l[k]? = some t) : (l.take (k + 1)).flatMap f = (l.take k).flatMap f ++ f t := by
  rw [List.take_add_one, ht]; simp
theorem own_lenH {w : World} {base : Nat} {e : TypeId} {v : Value} {n : Nat} {l : List HOp} (h : w.ownsRow base e 3 v n (cellsH l)) : l.length = n := by
  have := h.1
  rw [cellsH_length] at this; omega
set_option maxRecDepth 100000 in
set_option maxHeartbeats 4000000 in
theorem out_any {tk tl : TypeId} {lo : Nat} {s : VSt} {L : VLay} {tag : Nat → Int × Nat} {k0 : Nat} (w : World) (H : VHeap (vT tk tl) lo w s L tag) (hk : VOk k0 s) (hk0 : k0 ≤ 41) (A : Option Addr) (n c : Nat) :
    Calls Tryd.prog 36 #[L.vd, .slice A n c] w fun e w' => ∃ v1 v2, e = .returned (.agg #[v1, v2, .slice A n c]) ∧ w'.ownsRow (w.heap.size + 2) 3 1 v1 s.dn.length (cellsI s.dn) ∧ w'.ownsRow (w.heap.size + 2) 133 3 v2 (seenOf s).length (cellsH (seenOf s)) ∧ (∀ j, v1.ownBlock = some j → v2.ownBlock ≠ some j) ∧ Below w.heap.size w w' := by
  obtain ⟨Ad, cd, hvd⟩ := own_slice H.done
  have HH := hide (fun w1 (hb : Below w.heap.size w w1) => H.below hb)
  have HDn := hide (fun w1 (hb : Below w.heap.size w w1) => (show Rd w1 w1.heap.size 1 Ad s.dn.length (s.dn.map (ptrD L)) from rd_own (by rw [← hvd]; exact (H.below hb).done)))
  have HS := Lib.hid (And.intro H.sub H.nodup)
  have HK := Lib.hid hk
  have hdn : s.dn.length ≤ 41 := by have := hk.dn; omega
  have HE := Lib.hid (seenOf_T s)
  rw [hvd]
  clear H hk hvd
  generalize seenOf s = R at *
  have hz1 := (Blk.new w 26 [.slice none 0 0, .slice none 0 0, .slice none 0 0]).alloc (.cells #[.slice none 0 0, .slice none 0 0, .slice A n c] 26)
  have hz2 := Blk.new (w.alloc (.cells #[.slice none 0 0, .slice none 0 0, .slice none 0 0] 26)) 26 [.slice none 0 0, .slice none 0 0, .slice A n c]
  have hb0 : Below w.heap.size w ((w.alloc (.cells #[.slice none 0 0, .slice none 0 0, .slice none 0 0] 26)).alloc (.cells #[.slice none 0 0, .slice none 0 0, .slice A n c] 26)) := ((Below.refl _ _).alloc (Nat.le_refl _) _).alloc (by simp) _
  rw [show (w.alloc (.cells #[.slice none 0 0, .slice none 0 0, .slice none 0 0] 26)).heap.size = w.heap.size + 1 by simp] at hz2
  go_enter Tryd.func36, Tryd.ntmps36
  go_wp2
  go_loopw [12] (fun s12 wr => ∃ (k : Nat) (v1 v2 : Value) (m : Nat), k ≤ s.dn.length ∧ s12 = .int .i64 k ∧ m ≤ k * 41 ∧ Blk wr w.heap.size 26 [.slice none 0 0, .slice none 0 0, .slice none 0 0] ∧ Blk wr (w.heap.size + 1) 26 [v1, v2, .slice A n c] ∧ wr.ownsRow (w.heap.size + 2) 3 1 v1 k (cellsI (s.dn.take k)) ∧ wr.ownsRow (w.heap.size + 2) 133 3 v2 m (cellsH ((s.dn.take k).flatMap (seenT s))) ∧ Hid (∀ j, v1.ownBlock = some j → v2.ownBlock ≠ some j) ∧ Below w.heap.size w wr) (fun s12 _ => s.dn.length - (intOf s12).toNat)
  case atStart => exact ⟨0, .slice none 0 0, .slice none 0 0, 0, Nat.zero_le _, rfl, Nat.zero_le _, hz1, hz2, World.ownsRow_nil _ _ _ _, World.ownsRow_nil _ _ _ _, Lib.hid (fun _ h => by cases h), hb0⟩
  case round =>
    clear hz1 hz2 hb0
    obtain ⟨k, v1, v2, m, hkn, rfl, hm, hB4, hB5, ho1, ho2, HNE, hbw⟩ := hrel
    by_cases hlt : k < s.dn.length
    · obtain ⟨b, off, t, he, hb, ht, c0⟩ := (unhide HDn wr hbw).ptr (k := k) (by omega)
      cases he
      obtain ⟨d, hd, hdt⟩ := List.mem_map.1 (HS.out.1 t (List.mem_of_getElem? ht))
      have hg : dget s.ds t = some d := by rw [← hdt]; exact dget_mem HS.out.2 hd
      have HST := Lib.hid (show seenT s t = d.seen from by unfold seenT; rw [hg]; rfl)
      have HDT := Lib.hid (drop_at ht)
      have HT1 : Hid (cellsI (s.dn.take (k + 1)) = cellsI (s.dn.take k) ++ cellsI [d.tx]) := Lib.hid (by rw [List.take_add_one, ht, hdt]; simp [cellsI])
      have HT2 : Hid (cellsH ((s.dn.take (k + 1)).flatMap (seenT s)) = cellsH ((s.dn.take k).flatMap (seenT s)) ++ cellsH d.seen) := Lib.hid (by rw [flat_take ht, HST.out]; simp [cellsH])
      have hD := (unhide HH wr hbw).deals d hd
      have hsl := (HK.out.deals d hd).seen
      have hBd := hD.blk
      have hSd := hD.seen
      obtain ⟨As, cs, hvs⟩ := own_slice hSd
      rw [hvs] at hBd hSd
      have hgl := hBd.lt
      obtain ⟨A1, c1, rfl⟩ := own_slice ho1
      obtain ⟨A2, c2, rfl⟩ := own_slice ho2
      rw [← hdt] at c0
      have hlod := hD.blkL
      have hgw : L.g d.tx < w.heap.size := ((unhide HH w (Below.refl _ _)).deals d hd).blk.lt
      have hsw := ((unhide HH w (Below.refl _ _)).deals d hd).seen.lt
      rw [hvs] at hsw
      have HDX := hide (fun w1 (hb : Below w.heap.size w w1) => (show Blk w1 (L.g d.tx) 87 [.int .i64 d.tx, .int .i64 d.began, .int .i64 d.ended, .slice As d.seen.length cs, L.vw d.tx, L.vp d.tx] ∧ w1.ownsRow lo 133 3 (.slice As d.seen.length cs) d.seen.length (cellsH d.seen) from by
        have h := (unhide HH w1 hb).deals d hd
        have h1 := h.blk
        have h2 := h.seen
        rw [hvs] at h1 h2
        exact ⟨h1, h2⟩))
      clear hD hvs hd hg hdt ht
      have hz := hbw.size
      have hlt4 := hB4.lt
      have hlt5 := hB5.lt
      have hl1 := ho1.lt
      have hl2 := ho2.lt
      go_upto_region 5 with fail
      have hBo := hB5.drew
      have hBe := hBd.drew
      refine wp_region_noPanic ?_
      refine wp_region_till (fun w' => Blk w' (w.heap.size + 1) 26 [.slice A1 k c1, .slice A2 m c2, .slice A n c] ∧ Blk w' (L.g d.tx) 87 [.int .i64 d.tx, .int .i64 d.began, .int .i64 d.ended, .slice As d.seen.length cs, L.vw d.tx, L.vp d.tx]) 9 (by kernel_rfl) ⟨hBo, hBe⟩ (fun hS0 => ?_)
      refine wpTill_take 0 [7, 1, 0] (v := .pointer (some ⟨w.heap.size + 1, 0, none⟩)) rfl (by kernel_rfl) (by kernel_rfl) (by kernel_rfl) (by kernel_rfl) (by kernel_rfl) (by kernel_rfl) (fun _ _ _ h => h) hS0 (by rfl) (fun w1 hS1 => by obtain ⟨s1, s2⟩ := hS1; have z0 := s1.cellS (i := 0) (v := .slice A1 k c1) rfl; have z1 := s1.cellS (i := 1) (v := .slice A2 m c2) rfl; have y0 := s2.cellS (i := 0) (v := .int .i64 d.tx) rfl; have y3 := s2.cellS (i := 3) (v := .slice As d.seen.length cs) rfl; clear s1 s2; go_simp) ?_
      simp only [Act.put]
      refine wpTill_take 1 [7, 1] (v := .slice A1 k c1) rfl (by kernel_rfl) (by kernel_rfl) (by kernel_rfl) (by kernel_rfl) (by kernel_rfl) (by kernel_rfl) (fun _ _ _ h => h) hS0 (by rfl) (fun w1 hS1 => by obtain ⟨s1, s2⟩ := hS1; have z0 := s1.cellS (i := 0) (v := .slice A1 k c1) rfl; have z1 := s1.cellS (i := 1) (v := .slice A2 m c2) rfl; have y0 := s2.cellS (i := 0) (v := .int .i64 d.tx) rfl; have y3 := s2.cellS (i := 3) (v := .slice As d.seen.length cs) rfl; clear s1 s2; go_simp) ?_
      simp only [Act.put]
      refine wpTill_take 2 [7, 6, 5, 4, 3, 2] (v := .pointer (some ⟨L.g d.tx, 0, none⟩)) rfl (by kernel_rfl) (by kernel_rfl) (by kernel_rfl) (by kernel_rfl) (by kernel_rfl) (by kernel_rfl) (fun _ _ _ h => h) hS0 (by rfl) (fun w1 hS1 => by obtain ⟨s1, s2⟩ := hS1; have z0 := s1.cellS (i := 0) (v := .slice A1 k c1) rfl; have z1 := s1.cellS (i := 1) (v := .slice A2 m c2) rfl; have y0 := s2.cellS (i := 0) (v := .int .i64 d.tx) rfl; have y3 := s2.cellS (i := 3) (v := .slice As d.seen.length cs) rfl; clear s1 s2; go_simp) ?_
      simp only [Act.put]
      refine wpTill_take 3 [7, 6, 5, 4, 3] (v := .pointer (some ⟨L.g d.tx, 0, none⟩)) rfl (by kernel_rfl) (by kernel_rfl) (by kernel_rfl) (by kernel_rfl) (by kernel_rfl) (by kernel_rfl) (fun _ _ _ h => h) hS0 (by rfl) (fun w1 hS1 => by obtain ⟨s1, s2⟩ := hS1; have z0 := s1.cellS (i := 0) (v := .slice A1 k c1) rfl; have z1 := s1.cellS (i := 1) (v := .slice A2 m c2) rfl; have y0 := s2.cellS (i := 0) (v := .int .i64 d.tx) rfl; have y3 := s2.cellS (i := 3) (v := .slice As d.seen.length cs) rfl; clear s1 s2; go_simp) ?_
      simp only [Act.put]
      refine wpTill_take 4 [7, 6, 5, 4] (v := .pointer (some ⟨L.g d.tx, 0, none⟩)) rfl (by kernel_rfl) (by kernel_rfl) (by kernel_rfl) (by kernel_rfl) (by kernel_rfl) (by kernel_rfl) (fun _ _ _ h => h) hS0 (by rfl) (fun w1 hS1 => by obtain ⟨s1, s2⟩ := hS1; have z0 := s1.cellS (i := 0) (v := .slice A1 k c1) rfl; have z1 := s1.cellS (i := 1) (v := .slice A2 m c2) rfl; have y0 := s2.cellS (i := 0) (v := .int .i64 d.tx) rfl; have y3 := s2.cellS (i := 3) (v := .slice As d.seen.length cs) rfl; clear s1 s2; go_simp) ?_
      simp only [Act.put]
      refine wpTill_take 5 [7, 6, 5] (v := .int .i64 d.tx) rfl (by kernel_rfl) (by kernel_rfl) (by kernel_rfl) (by kernel_rfl) (by kernel_rfl) (by kernel_rfl) (fun _ _ _ h => h) hS0 (by rfl) (fun w1 hS1 => by obtain ⟨s1, s2⟩ := hS1; have z0 := s1.cellS (i := 0) (v := .slice A1 k c1) rfl; have z1 := s1.cellS (i := 1) (v := .slice A2 m c2) rfl; have y0 := s2.cellS (i := 0) (v := .int .i64 d.tx) rfl; have y3 := s2.cellS (i := 3) (v := .slice As d.seen.length cs) rfl; clear s1 s2; go_simp) ?_
      simp only [Act.put]
      have hOd : wr.drew.ownsRow (w.heap.size + 2) 3 1 (.slice A1 k c1) k (cellsI (s.dn.take k)) := ho1
      refine wpTill_one 6 rfl (by kernel_rfl) (fun K hK => ?_)
      have HK := Lib.hid hK
      clear hK
      go_simp
      refine HK.out _ _ (fun _ => ⟨hBo.alloc _, hBe.alloc _⟩) ?_
      clear HK K
      refine wpTill_one 7 rfl (by kernel_rfl) (fun K hK => ?_)
      have HK2 := Lib.hid hK
      clear hK
      refine step_app4 rfl (.tmp 17) (.tmp 22) _ rfl (w.heap.size + 2) slt_ints (n := k) (xs := cellsI (s.dn.take k)) (m := 1) (news := cellsI [d.tx]) rfl (own_alloc hOd _) rfl (rd_new' _ _ (cellsI [d.tx]) (by simp) rfl) (oneI _) (by omega) (by simp; omega) ?_
      intro v3 w3 hown3 hg3 hb3 hat3
      obtain ⟨A3, c3, rfl⟩ := own_slice hown3
      have q0 := (hBo.alloc (.cells (cellsI [d.tx]).toArray 3)).grown hg3 (fun j hj e => by have := hl1 j hj; omega)
      have q1 := (hBe.alloc (.cells (cellsI [d.tx]).toArray 3)).grown hg3 (fun j hj e => by have := hl1 j hj; omega)
      have k0 := q0.cellS (i := 0) (v := .slice A1 k c1) rfl
      have k1 := q0.frozen 0
      refine HK2.out _ _ (fun _ => ⟨q0, q1⟩) ?_
      clear HK2 K
      simp only [Act.put]
      refine wpTill_one 8 rfl (by kernel_rfl) (fun K hK => ?_)
      have HK2 := Lib.hid hK
      clear hK
      go_simp
      refine HK2.out _ _ (fun _ => ⟨q0, q1⟩) ?_
      clear HK2 K
      refine wpTill_one 9 rfl (by kernel_rfl) (fun K hK => ?_)
      have HK2 := Lib.hid hK
      clear hK
      go_simp
      refine HK2.out _ _ (fun h => absurd rfl h) ?_
      clear HK2 K
      refine wpTill_done (by kernel_rfl) (NoPanic.normal ?_) _
      have hd0 : Below wr.heap.size wr (wr.drew.alloc (.cells (cellsI [d.tx]).toArray 3)) := (Below.refl _ _).drew.alloc (Nat.le_refl _) _
      have hbw3 : Below w.heap.size w (w3.setCell ⟨w.heap.size + 1, 0, none⟩ (.slice A3 (k + 1) c3)) := ((hbw.trans (hd0.mono hz)).trans (hb3.mono (by omega))).setCell (p := ⟨w.heap.size + 1, 0, none⟩) (by simp) _
      have hB5' : Blk (w3.setCell ⟨w.heap.size + 1, 0, none⟩ (.slice A3 (k + 1) c3)) (w.heap.size + 1) 26 [.slice A3 (k + 1) c3, .slice A2 m c2, .slice A n c] := q0.put 0 (.slice A3 (k + 1) c3)
      have ho1' : (w3.setCell ⟨w.heap.size + 1, 0, none⟩ (.slice A3 (k + 1) c3)).ownsRow (w.heap.size + 2) 3 1 (.slice A3 (k + 1) c3) (k + 1) (cellsI (s.dn.take (k + 1))) := own_far (by rw [HT1.out]; exact hown3) (by simp) _
      have ho2' : w3.ownsRow (w.heap.size + 2) 133 3 (.slice A2 m c2) m (cellsH ((s.dn.take k).flatMap (seenT s))) := (own_below ho2 hd0 (Nat.le_refl _)).kept hg3 (by
        cases hv : (Value.slice A2 m c2).ownBlock with
        | none => exact .inl rfl
        | some j => exact .inr fun e => HNE.out j e.symm hv)
      have ho2' := own_far ho2' (p := ⟨w.heap.size + 1, 0, none⟩) (by simp) (.slice A3 (k + 1) c3)
      have hB4' : Blk (w3.setCell ⟨w.heap.size + 1, 0, none⟩ (.slice A3 (k + 1) c3)) w.heap.size 26 [.slice none 0 0, .slice none 0 0, .slice none 0 0] := (((hB4.drew.alloc (.cells (cellsI [d.tx]).toArray 3)).grown hg3 (fun j hj e => by have := hl1 j hj; omega))).far (by simp) _
      have HNE3 : Hid (∀ j, (Value.slice A3 (k + 1) c3).ownBlock = some j → (Value.slice A2 m c2).ownBlock ≠ some j) := Lib.hid (fun j hj e => by
        rcases hat3 with h | h
        · exact HNE.out j (h.symm.trans hj) e
        · rw [h] at hj
          have := hl2 j e
          injection hj with hj
          simp at hj
          omega)
      generalize hW4 : w3.setCell ⟨w.heap.size + 1, 0, none⟩ (.slice A3 (k + 1) c3) = w4 at hbw3 hB5' ho1' ho2' hB4' ⊢
      clear hW4 q0 q1 k0 k1 hown3 hg3 hb3 hat3 hOd hBo hBe hd0 hBd hSd ho1 ho2 hB4 hB5 hbw HNE hl1 hl2
      have hX := unhide HDX w4 hbw3
      have hBd := hX.1
      have hSd := hX.2
      clear hX
      have hl1 := ho1'.lt
      have hl2 := ho2'.lt
      have hz4 := hbw3.size
      have hlt4 := hB4'.lt
      have hlt5 := hB5'.lt
      go_upto_region 6 with fail
      have hBo := hB5'.drew
      have hBe := hBd.drew
      refine wp_region_noPanic ?_
      refine wp_region_till (fun w' => Blk w' (w.heap.size + 1) 26 [.slice A3 (k + 1) c3, .slice A2 m c2, .slice A n c] ∧ Blk w' (L.g d.tx) 87 [.int .i64 d.tx, .int .i64 d.began, .int .i64 d.ended, .slice As d.seen.length cs, L.vw d.tx, L.vp d.tx]) 8 (by kernel_rfl) ⟨hBo, hBe⟩ (fun hS0 => ?_)
      refine wpTill_take 0 [6, 1, 0] (v := .pointer (some ⟨w.heap.size + 1, 1, none⟩)) rfl (by kernel_rfl) (by kernel_rfl) (by kernel_rfl) (by kernel_rfl) (by kernel_rfl) (by kernel_rfl) (fun _ _ _ h => h) hS0 (by rfl) (fun w1 hS1 => by obtain ⟨s1, s2⟩ := hS1; have z0 := s1.cellS (i := 0) (v := .slice A3 (k + 1) c3) rfl; have z1 := s1.cellS (i := 1) (v := .slice A2 m c2) rfl; have y0 := s2.cellS (i := 0) (v := .int .i64 d.tx) rfl; have y3 := s2.cellS (i := 3) (v := .slice As d.seen.length cs) rfl; clear s1 s2; go_simp) ?_
      simp only [Act.put]
      refine wpTill_take 1 [6, 1] (v := .slice A2 m c2) rfl (by kernel_rfl) (by kernel_rfl) (by kernel_rfl) (by kernel_rfl) (by kernel_rfl) (by kernel_rfl) (fun _ _ _ h => h) hS0 (by rfl) (fun w1 hS1 => by obtain ⟨s1, s2⟩ := hS1; have z0 := s1.cellS (i := 0) (v := .slice A3 (k + 1) c3) rfl; have z1 := s1.cellS (i := 1) (v := .slice A2 m c2) rfl; have y0 := s2.cellS (i := 0) (v := .int .i64 d.tx) rfl; have y3 := s2.cellS (i := 3) (v := .slice As d.seen.length cs) rfl; clear s1 s2; go_simp) ?_
      simp only [Act.put]
      refine wpTill_take 2 [6, 5, 4, 3, 2] (v := .pointer (some ⟨L.g d.tx, 0, none⟩)) rfl (by kernel_rfl) (by kernel_rfl) (by kernel_rfl) (by kernel_rfl) (by kernel_rfl) (by kernel_rfl) (fun _ _ _ h => h) hS0 (by rfl) (fun w1 hS1 => by obtain ⟨s1, s2⟩ := hS1; have z0 := s1.cellS (i := 0) (v := .slice A3 (k + 1) c3) rfl; have z1 := s1.cellS (i := 1) (v := .slice A2 m c2) rfl; have y0 := s2.cellS (i := 0) (v := .int .i64 d.tx) rfl; have y3 := s2.cellS (i := 3) (v := .slice As d.seen.length cs) rfl; clear s1 s2; go_simp) ?_
      simp only [Act.put]
      refine wpTill_take 3 [6, 5, 4, 3] (v := .pointer (some ⟨L.g d.tx, 0, none⟩)) rfl (by kernel_rfl) (by kernel_rfl) (by kernel_rfl) (by kernel_rfl) (by kernel_rfl) (by kernel_rfl) (fun _ _ _ h => h) hS0 (by rfl) (fun w1 hS1 => by obtain ⟨s1, s2⟩ := hS1; have z0 := s1.cellS (i := 0) (v := .slice A3 (k + 1) c3) rfl; have z1 := s1.cellS (i := 1) (v := .slice A2 m c2) rfl; have y0 := s2.cellS (i := 0) (v := .int .i64 d.tx) rfl; have y3 := s2.cellS (i := 3) (v := .slice As d.seen.length cs) rfl; clear s1 s2; go_simp) ?_
      simp only [Act.put]
      refine wpTill_take 4 [6, 5, 4] (v := .pointer (some ⟨L.g d.tx, 3, none⟩)) rfl (by kernel_rfl) (by kernel_rfl) (by kernel_rfl) (by kernel_rfl) (by kernel_rfl) (by kernel_rfl) (fun _ _ _ h => h) hS0 (by rfl) (fun w1 hS1 => by obtain ⟨s1, s2⟩ := hS1; have z0 := s1.cellS (i := 0) (v := .slice A3 (k + 1) c3) rfl; have z1 := s1.cellS (i := 1) (v := .slice A2 m c2) rfl; have y0 := s2.cellS (i := 0) (v := .int .i64 d.tx) rfl; have y3 := s2.cellS (i := 3) (v := .slice As d.seen.length cs) rfl; clear s1 s2; go_simp) ?_
      simp only [Act.put]
      refine wpTill_take 5 [6, 5] (v := .slice As d.seen.length cs) rfl (by kernel_rfl) (by kernel_rfl) (by kernel_rfl) (by kernel_rfl) (by kernel_rfl) (by kernel_rfl) (fun _ _ _ h => h) hS0 (by rfl) (fun w1 hS1 => by obtain ⟨s1, s2⟩ := hS1; have z0 := s1.cellS (i := 0) (v := .slice A3 (k + 1) c3) rfl; have z1 := s1.cellS (i := 1) (v := .slice A2 m c2) rfl; have y0 := s2.cellS (i := 0) (v := .int .i64 d.tx) rfl; have y3 := s2.cellS (i := 3) (v := .slice As d.seen.length cs) rfl; clear s1 s2; go_simp) ?_
      simp only [Act.put]
      have hOd : w4.drew.ownsRow (w.heap.size + 2) 133 3 (.slice A2 m c2) m (cellsH ((s.dn.take k).flatMap (seenT s))) := ho2'
      have hRd : Rd w4.drew w4.drew.heap.size 3 As d.seen.length (cellsH d.seen) := rd_own hSd
      refine wpTill_one 6 rfl (by kernel_rfl) (fun K hK => ?_)
      have HK2 := Lib.hid hK
      clear hK
      refine step_app4 rfl (.tmp 26) (.tmp 30) _ rfl (w.heap.size + 2) slt_seen (n := m) (xs := cellsH ((s.dn.take k).flatMap (seenT s))) (m := d.seen.length) (news := cellsH d.seen) rfl hOd rfl hRd (oneH _) (by omega) (by simp; omega) ?_
      intro v5 w5 hown5 hg5 hb5 hat5
      obtain ⟨A5, c5, rfl⟩ := own_slice hown5
      have q0 := hBo.grown hg5 (fun j hj e => by have := hl2 j hj; omega)
      have q1 := hBe.grown hg5 (fun j hj e => by have := hl2 j hj; omega)
      have k0 := q0.cellS (i := 1) (v := .slice A2 m c2) rfl
      have k1 := q0.frozen 1
      refine HK2.out _ _ (fun _ => ⟨q0, q1⟩) ?_
      clear HK2 K
      simp only [Act.put]
      refine wpTill_one 7 rfl (by kernel_rfl) (fun K hK => ?_)
      have HK2 := Lib.hid hK
      clear hK
      go_simp
      refine HK2.out _ _ (fun _ => ⟨q0, q1⟩) ?_
      clear HK2 K
      refine wpTill_one 8 rfl (by kernel_rfl) (fun K hK => ?_)
      have HK2 := Lib.hid hK
      clear hK
      go_simp
      refine HK2.out _ _ (fun h => absurd rfl h) ?_
      clear HK2 K
      refine wpTill_done (by kernel_rfl) (NoPanic.normal ?_) _
      have hd4 : Below w4.heap.size w4 w4.drew := (Below.refl _ _).drew
      have hbw5 : Below w.heap.size w (w5.setCell ⟨w.heap.size + 1, 1, none⟩ (.slice A5 (m + d.seen.length) c5)) := ((hbw3.trans (hd4.mono hz4)).trans (hb5.mono (by omega))).setCell (p := ⟨w.heap.size + 1, 1, none⟩) (by simp) _
      have hB5x : Blk (w5.setCell ⟨w.heap.size + 1, 1, none⟩ (.slice A5 (m + d.seen.length) c5)) (w.heap.size + 1) 26 [.slice A3 (k + 1) c3, .slice A5 (m + d.seen.length) c5, .slice A n c] := q0.put 1 (.slice A5 (m + d.seen.length) c5)
      have ho2x : (w5.setCell ⟨w.heap.size + 1, 1, none⟩ (.slice A5 (m + d.seen.length) c5)).ownsRow (w.heap.size + 2) 133 3 (.slice A5 (m + d.seen.length) c5) (m + d.seen.length) (cellsH ((s.dn.take (k + 1)).flatMap (seenT s))) := own_far (by rw [HT2.out]; exact hown5) (by simp) _
      have ho1x : w5.ownsRow (w.heap.size + 2) 3 1 (.slice A3 (k + 1) c3) (k + 1) (cellsI (s.dn.take (k + 1))) := (own_below ho1' hd4 (Nat.le_refl _)).kept hg5 (by
        cases hv : (Value.slice A3 (k + 1) c3).ownBlock with
        | none => exact .inl rfl
        | some j => exact .inr fun e => HNE3.out j hv e.symm)
      have ho1x := own_far ho1x (p := ⟨w.heap.size + 1, 1, none⟩) (by simp) (.slice A5 (m + d.seen.length) c5)
      have hB4x : Blk (w5.setCell ⟨w.heap.size + 1, 1, none⟩ (.slice A5 (m + d.seen.length) c5)) w.heap.size 26 [.slice none 0 0, .slice none 0 0, .slice none 0 0] := (hB4'.drew.grown hg5 (fun j hj e => by have := hl2 j hj; omega)).far (by simp) _
      have HNE5 : Hid (∀ j, (Value.slice A3 (k + 1) c3).ownBlock = some j → (Value.slice A5 (m + d.seen.length) c5).ownBlock ≠ some j) := Lib.hid (fun j hj e => by
        rcases hat5 with h | h
        · exact HNE3.out j hj (h.symm.trans e)
        · rw [h] at e
          have := hl1 j hj
          injection e with e
          simp at e
          omega)
      generalize hW6 : w5.setCell ⟨w.heap.size + 1, 1, none⟩ (.slice A5 (m + d.seen.length) c5) = w6 at hbw5 hB5x ho1x ho2x hB4x ⊢
      clear hW6 q0 q1 k0 k1 hown5 hg5 hb5 hat5 hOd hRd hBo hBe hd4 hBd hSd hl1 hl2
      have hm' : m + d.seen.length ≤ (k + 1) * 41 := by omega
      go_wp2
      go_roundw
      case rel => exact ⟨k + 1, _, _, _, by omega, by go_num, hm', hB4x, hB5x, ho1x, ho2x, HNE5, hbw5⟩
      case measure => simp [intOf]; omega
    · obtain rfl : k = s.dn.length := by omega
      rw [List.take_length] at ho1 ho2
      rw [← HE.out] at ho2
      obtain rfl := own_lenH ho2
      obtain ⟨A1, c1, rfl⟩ := own_slice ho1
      obtain ⟨A2, c2, rfl⟩ := own_slice ho2
      have hz := hbw.size
      have z0 := hB5.cellS (i := 0) (v := .slice A1 s.dn.length c1) rfl
      have z1 := hB5.cellS (i := 1) (v := .slice A2 R.length c2) rfl
      have z2 := hB5.cellS (i := 2) (v := .slice A n c) rfl
      have x0 := hB4.cellS (i := 0) (v := .slice none 0 0) rfl
      have x1 := hB4.cellS (i := 1) (v := .slice none 0 0) rfl
      have x2 := hB4.cellS (i := 2) (v := .slice none 0 0) rfl
      have f0 := hB4.frozen 0
      have f1 := hB4.frozen 1
      have f2 := hB4.frozen 2
      have hR := ((hB4.put 0 (.slice A1 s.dn.length c1)).put 1 (.slice A2 R.length c2)).put 2 (.slice A n c)
      have r0 := hR.cellS (i := 0) (v := .slice A1 s.dn.length c1) rfl
      have r1 := hR.cellS (i := 1) (v := .slice A2 R.length c2) rfl
      have r2 := hR.cellS (i := 2) (v := .slice A n c) rfl
      have hbx := ((hbw.setCell (p := ⟨w.heap.size, 0, none⟩) (Nat.le_refl _) (.slice A1 s.dn.length c1)).setCell (p := ⟨w.heap.size, 1, none⟩) (Nat.le_refl _) (.slice A2 R.length c2)).setCell (p := ⟨w.heap.size, 2, none⟩) (Nat.le_refl _) (.slice A n c)
      have o1 := own_far (own_far (own_far ho1 (p := ⟨w.heap.size, 0, none⟩) (by simp) (.slice A1 s.dn.length c1)) (p := ⟨w.heap.size, 1, none⟩) (by simp) (.slice A2 R.length c2)) (p := ⟨w.heap.size, 2, none⟩) (by simp) (.slice A n c)
      have o2 := own_far (own_far (own_far ho2 (p := ⟨w.heap.size, 0, none⟩) (by simp) (.slice A1 s.dn.length c1)) (p := ⟨w.heap.size, 1, none⟩) (by simp) (.slice A2 R.length c2)) (p := ⟨w.heap.size, 2, none⟩) (by simp) (.slice A n c)
      have HO := hide (And.intro o1 o2)
      clear o1 o2 ho1 ho2 hR
      go_wp2
      refine bodyPost_ret (v := .agg #[.slice A1 s.dn.length c1, .slice A2 R.length c2, .slice A n c]) (by simp [results, Tryd.results36, go_sem, r0, r1, r2]) rfl ?_
      exact ⟨_, _, rfl, (unhide HO).1, (unhide HO).2, HNE.out, hbx⟩
end Go.Proofs.YtfmdeahblaikoaaDoor
