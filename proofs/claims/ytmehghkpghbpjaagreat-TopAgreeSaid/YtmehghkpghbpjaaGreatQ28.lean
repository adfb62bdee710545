
/-
  CONTRACT of valid.Out, in a run's heap: who is done, what they saw, who wrote last.
  CONTRACTS of snap.See, snap.May in a run's heap.
  CONTRACT of snap.Run: what any ops come to, by what was when deals began.
-/
import Derived.Test.YtmehghkpghbpjaaGreatValidPlay
import Derived.Test.YtmehghkpghbpjaaGreatQ25
import Derived.Test.YtmehghkpghbpjaaGreatQ26

namespace Go.Proofs.YtmehghkpghbpjaaGreat
open Go.RowKit

/-- What a deal saw, by its number. -/
def seenT (s : VSt) (t : Int) : List HOp := ((dget s.ds t).getD ⟨t, 0, 0, [], [], []⟩).seen
theorem seenOf_T (s : VSt) : seenOf s = s.dn.flatMap (seenT s) := by
  unfold seenOf doneD
  rw [List.flatMap_map]; rfl
theorem flat_take {l : List Int} {f : Int → List HOp} {k : Nat} {t : Int} (ht : l[k]? = some t) : (l.take (k + 1)).flatMap f = (l.take k).flatMap f ++ f t := by
  rw [List.take_add_one, ht]; simp
theorem own_lenH {w : World} {base : Nat} {e : TypeId} {v : Value} {n : Nat} {l : List HOp} (h : w.ownsRow base e 3 v n (cellsH l)) : l.length = n := by
  have := h.1
  rw [cellsH_length] at this; omega
set_option maxRecDepth 100000 in
set_option maxHeartbeats 4000000 in
theorem out_any {tk tl : TypeId} {lo : Nat} {s : VSt} {L : VLay} {tag : Nat → Int × Nat} {k0 : Nat} (w : World) (H : VHeap (vT tk tl) lo w s L tag) (hk : VOk k0 s) (hk0 : k0 ≤ 41) (A : Option Addr) (n c : Nat) :
    Calls Tryz.prog 36 #[L.vd, .slice A n c] w fun e w' => ∃ v1 v2, e = .returned (.agg #[v1, v2, .slice A n c]) ∧ w'.ownsRow (w.heap.size + 2) 3 1 v1 s.dn.length (cellsI s.dn) ∧ w'.ownsRow (w.heap.size + 2) 50 3 v2 (seenOf s).length (cellsH (seenOf s)) ∧ (∀ j, v1.ownBlock = some j → v2.ownBlock ≠ some j) ∧ Below w.heap.size w w' := by
  obtain ⟨Ad, cd, hvd⟩ := own_slice H.done
  have HH := hide (fun w1 (hb : Below w.heap.size w w1) => H.below hb)
  have HDn := hide (fun w1 (hb : Below w.heap.size w w1) => (show Rd w1 w1.heap.size 1 Ad s.dn.length (s.dn.map (ptrD L)) from rd_own (by rw [← hvd]; exact (H.below hb).done)))
  have HS := Lib.hid (And.intro H.sub H.nodup)
  have HK := Lib.hid hk
  have hdn : s.dn.length ≤ 41 := by have := hk.dn; omega
  have HE := Lib.hid (seenOf_T s)
  rw [hvd]
  clear H hk hvd
  generalize seenOf s = R at *
  have hz1 := (Blk.new w 40 [.slice none 0 0, .slice none 0 0, .slice none 0 0]).alloc (.cells #[.slice none 0 0, .slice none 0 0, .slice A n c] 40)
  have hz2 := Blk.new (w.alloc (.cells #[.slice none 0 0, .slice none 0 0, .slice none 0 0] 40)) 40 [.slice none 0 0, .slice none 0 0, .slice A n c]
  have hb0 : Below w.heap.size w ((w.alloc (.cells #[.slice none 0 0, .slice none 0 0, .slice none 0 0] 40)).alloc (.cells #[.slice none 0 0, .slice none 0 0, .slice A n c] 40)) := ((Below.refl _ _).alloc (Nat.le_refl _) _).alloc (by simp) _
  rw [show (w.alloc (.cells #[.slice none 0 0, .slice none 0 0, .slice none 0 0] 40)).heap.size = w.heap.size + 1 by simp] at hz2
  go_enter Tryz.func36, Tryz.ntmps36
  go_wp2
  go_loopw [12] (fun s12 wr => ∃ (k : Nat) (v1 v2 : Value) (m : Nat), k ≤ s.dn.length ∧ s12 = .int .i64 k ∧ m ≤ k * 41 ∧ Blk wr w.heap.size 40 [.slice none 0 0, .slice none 0 0, .slice none 0 0] ∧ Blk wr (w.heap.size + 1) 40 [v1, v2, .slice A n c] ∧ wr.ownsRow (w.heap.size + 2) 3 1 v1 k (cellsI (s.dn.take k)) ∧ wr.ownsRow (w.heap.size + 2) 50 3 v2 m (cellsH ((s.dn.take k).flatMap (seenT s))) ∧ Hid (∀ j, v1.ownBlock = some j → v2.ownBlock ≠ some j) ∧ Below w.heap.size w wr) (fun s12 _ => s.dn.length - (intOf s12).toNat)
  case atStart => exact ⟨0, .slice none 0 0, .slice none 0 0, 0, Nat.zero_le _, rfl, Nat.zero_le _, hz1, hz2, World.ownsRow_nil _ _ _ _, World.ownsRow_nil _ _ _ _, Lib.hid (fun _ h => by cases h), hb0⟩
  case round =>
    clear hz1 hz2 hb0
    obtain ⟨k, v1, v2, m, hkn, rfl, hm, hB4, hB5, ho1, ho2, HNE, hbw⟩ := hrel
    by_cases hlt : k < s.dn.length
    · obtain ⟨b, off, t, he, hb, ht, c0⟩ := (unhide HDn wr hbw).ptr (k := k) (by omega)
      cases he
      obtain ⟨d, hd, hdt⟩ := List.mem_map.1 (HS.out.1 t (List.mem_of_getElem? ht))
      have hg : dget s.ds t = some d := by rw [← hdt]; exact dget_mem HS.out.2 hd
      have HST := Lib.hid (show seenT s t = d.seen from by unfold seenT; rw [hg]; rfl)
      have HDT := Lib.hid (drop_at ht)
      have HT1 : Hid (cellsI (s.dn.take (k + 1)) = cellsI (s.dn.take k) ++ cellsI [d.tx]) := Lib.hid (by rw [List.take_add_one, ht, hdt]; simp [cellsI])
      have HT2 : Hid (cellsH ((s.dn.take (k + 1)).flatMap (seenT s)) = cellsH ((s.dn.take k).flatMap (seenT s)) ++ cellsH d.seen) := Lib.hid (by rw [flat_take ht, HST.out]; simp [cellsH])
      have hD := (unhide HH wr hbw).deals d hd
      have hsl := (HK.out.deals d hd).seen
      have hBd := hD.blk
      have hSd := hD.seen
      obtain ⟨As, cs, hvs⟩ := own_slice hSd
      rw [hvs] at hBd hSd
      have hgl := hBd.lt
      obtain ⟨A1, c1, rfl⟩ := own_slice ho1
      obtain ⟨A2, c2, rfl⟩ := own_slice ho2
      rw [← hdt] at c0
      have hlod := hD.blkL
      have hgw : L.g d.tx < w.heap.size := ((unhide HH w (Below.refl _ _)).deals d hd).blk.lt
      have hsw := ((unhide HH w (Below.refl _ _)).deals d hd).seen.lt
      rw [hvs] at hsw
      have HDX := hide (fun w1 (hb : Below w.heap.size w w1) => (show Blk w1 (L.g d.tx) 88 [.int .i64 d.tx, .int .i64 d.began, .int .i64 d.ended, .slice As d.seen.length cs, L.vw d.tx, L.vp d.tx] ∧ w1.ownsRow lo 50 3 (.slice As d.seen.length cs) d.seen.length (cellsH d.seen) from by
        have h := (unhide HH w1 hb).deals d hd
        have h1 := h.blk
        have h2 := h.seen
        rw [hvs] at h1 h2
        exact ⟨h1, h2⟩))
      clear hD hvs hd hg hdt ht
      have hz := hbw.size
      have hlt4 := hB4.lt
      have hlt5 := hB5.lt
      have hl1 := ho1.lt
      have hl2 := ho2.lt
      go_upto_region 5 with fail
      have hBo := hB5.drew
      have hBe := hBd.drew
      refine wp_region_noPanic ?_
      refine wp_region_till (fun w' => Blk w' (w.heap.size + 1) 40 [.slice A1 k c1, .slice A2 m c2, .slice A n c] ∧ Blk w' (L.g d.tx) 88 [.int .i64 d.tx, .int .i64 d.began, .int .i64 d.ended, .slice As d.seen.length cs, L.vw d.tx, L.vp d.tx]) 9 (by kernel_rfl) ⟨hBo, hBe⟩ (fun hS0 => ?_)
      refine wpTill_take 0 [7, 1, 0] (v := .pointer (some ⟨w.heap.size + 1, 0, none⟩)) rfl (by kernel_rfl) (by kernel_rfl) (by kernel_rfl) (by kernel_rfl) (by kernel_rfl) (by kernel_rfl) (fun _ _ _ h => h) hS0 (by rfl) (fun w1 hS1 => by obtain ⟨s1, s2⟩ := hS1; have z0 := s1.cellS (i := 0) (v := .slice A1 k c1) rfl; have z1 := s1.cellS (i := 1) (v := .slice A2 m c2) rfl; have y0 := s2.cellS (i := 0) (v := .int .i64 d.tx) rfl; have y3 := s2.cellS (i := 3) (v := .slice As d.seen.length cs) rfl; clear s1 s2; go_simp) ?_
      simp only [Act.put]
      refine wpTill_take 1 [7, 1] (v := .slice A1 k c1) rfl (by kernel_rfl) (by kernel_rfl) (by kernel_rfl) (by kernel_rfl) (by kernel_rfl) (by kernel_rfl) (fun _ _ _ h => h) hS0 (by rfl) (fun w1 hS1 => by obtain ⟨s1, s2⟩ := hS1; have z0 := s1.cellS (i := 0) (v := .slice A1 k c1) rfl; have z1 := s1.cellS (i := 1) (v := .slice A2 m c2) rfl; have y0 := s2.cellS (i := 0) (v := .int .i64 d.tx) rfl; have y3 := s2.cellS (i := 3) (v := .slice As d.seen.length cs) rfl; clear s1 s2; go_simp) ?_
      simp only [Act.put]
      refine wpTill_take 2 [7, 6, 5, 4, 3, 2] (v := .pointer (some ⟨L.g d.tx, 0, none⟩)) rfl (by kernel_rfl) (by kernel_rfl) (by kernel_rfl) (by kernel_rfl) (by kernel_rfl) (by kernel_rfl) (fun _ _ _ h => h) hS0 (by rfl) (fun w1 hS1 => by obtain ⟨s1, s2⟩ := hS1; have z0 := s1.cellS (i := 0) (v := .slice A1 k c1) rfl; have z1 := s1.cellS (i := 1) (v := .slice A2 m c2) rfl; have y0 := s2.cellS (i := 0) (v := .int .i64 d.tx) rfl; have y3 := s2.cellS (i := 3) (v := .slice As d.seen.length cs) rfl; clear s1 s2; go_simp) ?_
      simp only [Act.put]
      refine wpTill_take 3 [7, 6, 5, 4, 3] (v := .pointer (some ⟨L.g d.tx, 0, none⟩)) rfl (by kernel_rfl) (by kernel_rfl) (by kernel_rfl) (by kernel_rfl) (by kernel_rfl) (by kernel_rfl) (fun _ _ _ h => h) hS0 (by rfl) (fun w1 hS1 => by obtain ⟨s1, s2⟩ := hS1; have z0 := s1.cellS (i := 0) (v := .slice A1 k c1) rfl; have z1 := s1.cellS (i := 1) (v := .slice A2 m c2) rfl; have y0 := s2.cellS (i := 0) (v := .int .i64 d.tx) rfl; have y3 := s2.cellS (i := 3) (v := .slice As d.seen.length cs) rfl; clear s1 s2; go_simp) ?_
      simp only [Act.put]
      refine wpTill_take 4 [7, 6, 5, 4] (v := .pointer (some ⟨L.g d.tx, 0, none⟩)) rfl (by kernel_rfl) (by kernel_rfl) (by kernel_rfl) (by kernel_rfl) (by kernel_rfl) (by kernel_rfl) (fun _ _ _ h => h) hS0 (by rfl) (fun w1 hS1 => by obtain ⟨s1, s2⟩ := hS1; have z0 := s1.cellS (i := 0) (v := .slice A1 k c1) rfl; have z1 := s1.cellS (i := 1) (v := .slice A2 m c2) rfl; have y0 := s2.cellS (i := 0) (v := .int .i64 d.tx) rfl; have y3 := s2.cellS (i := 3) (v := .slice As d.seen.length cs) rfl; clear s1 s2; go_simp) ?_
      simp only [Act.put]
      refine wpTill_take 5 [7, 6, 5] (v := .int .i64 d.tx) rfl (by kernel_rfl) (by kernel_rfl) (by kernel_rfl) (by kernel_rfl) (by kernel_rfl) (by kernel_rfl) (fun _ _ _ h => h) hS0 (by rfl) (fun w1 hS1 => by obtain ⟨s1, s2⟩ := hS1; have z0 := s1.cellS (i := 0) (v := .slice A1 k c1) rfl; have z1 := s1.cellS (i := 1) (v := .slice A2 m c2) rfl; have y0 := s2.cellS (i := 0) (v := .int .i64 d.tx) rfl; have y3 := s2.cellS (i := 3) (v := .slice As d.seen.length cs) rfl; clear s1 s2; go_simp) ?_
      simp only [Act.put]
      have hOd : wr.drew.ownsRow (w.heap.size + 2) 3 1 (.slice A1 k c1) k (cellsI (s.dn.take k)) := ho1
      refine wpTill_one 6 rfl (by kernel_rfl) (fun K hK => ?_)
      have HK := Lib.hid hK
      clear hK
      go_simp
      refine HK.out _ _ (fun _ => ⟨hBo.alloc _, hBe.alloc _⟩) ?_
      clear HK K
      refine wpTill_one 7 rfl (by kernel_rfl) (fun K hK => ?_)
      have HK2 := Lib.hid hK
      clear hK
      refine step_app4 rfl (.tmp 17) (.tmp 22) _ rfl (w.heap.size + 2) slt_ints (n := k) (xs := cellsI (s.dn.take k)) (m := 1) (news := cellsI [d.tx]) rfl (own_alloc hOd _) rfl (rd_new' _ _ (cellsI [d.tx]) (by simp) rfl) (oneI _) (by omega) (by simp; omega) ?_
      intro v3 w3 hown3 hg3 hb3 hat3
      obtain ⟨A3, c3, rfl⟩ := own_slice hown3
      have q0 := (hBo.alloc (.cells (cellsI [d.tx]).toArray 3)).grown hg3 (fun j hj e => by have := hl1 j hj; omega)
      have q1 := (hBe.alloc (.cells (cellsI [d.tx]).toArray 3)).grown hg3 (fun j hj e => by have := hl1 j hj; omega)
      have k0 := q0.cellS (i := 0) (v := .slice A1 k c1) rfl
      have k1 := q0.frozen 0
      refine HK2.out _ _ (fun _ => ⟨q0, q1⟩) ?_
      clear HK2 K
      simp only [Act.put]
      refine wpTill_one 8 rfl (by kernel_rfl) (fun K hK => ?_)
      have HK2 := Lib.hid hK
      clear hK
      go_simp
      refine HK2.out _ _ (fun _ => ⟨q0, q1⟩) ?_
      clear HK2 K
      refine wpTill_one 9 rfl (by kernel_rfl) (fun K hK => ?_)
      have HK2 := Lib.hid hK
      clear hK
      go_simp
      refine HK2.out _ _ (fun h => absurd rfl h) ?_
      clear HK2 K
      refine wpTill_done (by kernel_rfl) (NoPanic.normal ?_) _
      have hd0 : Below wr.heap.size wr (wr.drew.alloc (.cells (cellsI [d.tx]).toArray 3)) := (Below.refl _ _).drew.alloc (Nat.le_refl _) _
      have hbw3 : Below w.heap.size w (w3.setCell ⟨w.heap.size + 1, 0, none⟩ (.slice A3 (k + 1) c3)) := ((hbw.trans (hd0.mono hz)).trans (hb3.mono (by omega))).setCell (p := ⟨w.heap.size + 1, 0, none⟩) (by simp) _
      have hB5' : Blk (w3.setCell ⟨w.heap.size + 1, 0, none⟩ (.slice A3 (k + 1) c3)) (w.heap.size + 1) 40 [.slice A3 (k + 1) c3, .slice A2 m c2, .slice A n c] := q0.put 0 (.slice A3 (k + 1) c3)
      have ho1' : (w3.setCell ⟨w.heap.size + 1, 0, none⟩ (.slice A3 (k + 1) c3)).ownsRow (w.heap.size + 2) 3 1 (.slice A3 (k + 1) c3) (k + 1) (cellsI (s.dn.take (k + 1))) := own_far (by rw [HT1.out]; exact hown3) (by simp) _
      have ho2' : w3.ownsRow (w.heap.size + 2) 50 3 (.slice A2 m c2) m (cellsH ((s.dn.take k).flatMap (seenT s))) := (own_below ho2 hd0 (Nat.le_refl _)).kept hg3 (by
        cases hv : (Value.slice A2 m c2).ownBlock with
        | none => exact .inl rfl
        | some j => exact .inr fun e => HNE.out j e.symm hv)
      have ho2' := own_far ho2' (p := ⟨w.heap.size + 1, 0, none⟩) (by simp) (.slice A3 (k + 1) c3)
      have hB4' : Blk (w3.setCell ⟨w.heap.size + 1, 0, none⟩ (.slice A3 (k + 1) c3)) w.heap.size 40 [.slice none 0 0, .slice none 0 0, .slice none 0 0] := (((hB4.drew.alloc (.cells (cellsI [d.tx]).toArray 3)).grown hg3 (fun j hj e => by have := hl1 j hj; omega))).far (by simp) _
      have HNE3 : Hid (∀ j, (Value.slice A3 (k + 1) c3).ownBlock = some j → (Value.slice A2 m c2).ownBlock ≠ some j) := Lib.hid (fun j hj e => by
        rcases hat3 with h | h
        · exact HNE.out j (h.symm.trans hj) e
        · rw [h] at hj
          have := hl2 j e
          injection hj with hj
          simp at hj
          omega)
      generalize hW4 : w3.setCell ⟨w.heap.size + 1, 0, none⟩ (.slice A3 (k + 1) c3) = w4 at hbw3 hB5' ho1' ho2' hB4' ⊢
      clear hW4 q0 q1 k0 k1 hown3 hg3 hb3 hat3 hOd hBo hBe hd0 hBd hSd ho1 ho2 hB4 hB5 hbw HNE hl1 hl2
      have hX := unhide HDX w4 hbw3
      have hBd := hX.1
      have hSd := hX.2
      clear hX
      have hl1 := ho1'.lt
      have hl2 := ho2'.lt
      have hz4 := hbw3.size
      have hlt4 := hB4'.lt
      have hlt5 := hB5'.lt
      go_upto_region 6 with fail
      have hBo := hB5'.drew
      have hBe := hBd.drew
      refine wp_region_noPanic ?_
      refine wp_region_till (fun w' => Blk w' (w.heap.size + 1) 40 [.slice A3 (k + 1) c3, .slice A2 m c2, .slice A n c] ∧ Blk w' (L.g d.tx) 88 [.int .i64 d.tx, .int .i64 d.began, .int .i64 d.ended, .slice As d.seen.length cs, L.vw d.tx, L.vp d.tx]) 8 (by kernel_rfl) ⟨hBo, hBe⟩ (fun hS0 => ?_)
      refine wpTill_take 0 [6, 1, 0] (v := .pointer (some ⟨w.heap.size + 1, 1, none⟩)) rfl (by kernel_rfl) (by kernel_rfl) (by kernel_rfl) (by kernel_rfl) (by kernel_rfl) (by kernel_rfl) (fun _ _ _ h => h) hS0 (by rfl) (fun w1 hS1 => by obtain ⟨s1, s2⟩ := hS1; have z0 := s1.cellS (i := 0) (v := .slice A3 (k + 1) c3) rfl; have z1 := s1.cellS (i := 1) (v := .slice A2 m c2) rfl; have y0 := s2.cellS (i := 0) (v := .int .i64 d.tx) rfl; have y3 := s2.cellS (i := 3) (v := .slice As d.seen.length cs) rfl; clear s1 s2; go_simp) ?_
      simp only [Act.put]
      refine wpTill_take 1 [6, 1] (v := .slice A2 m c2) rfl (by kernel_rfl) (by kernel_rfl) (by kernel_rfl) (by kernel_rfl) (by kernel_rfl) (by kernel_rfl) (fun _ _ _ h => h) hS0 (by rfl) (fun w1 hS1 => by obtain ⟨s1, s2⟩ := hS1; have z0 := s1.cellS (i := 0) (v := .slice A3 (k + 1) c3) rfl; have z1 := s1.cellS (i := 1) (v := .slice A2 m c2) rfl; have y0 := s2.cellS (i := 0) (v := .int .i64 d.tx) rfl; have y3 := s2.cellS (i := 3) (v := .slice As d.seen.length cs) rfl; clear s1 s2; go_simp) ?_
      simp only [Act.put]
      refine wpTill_take 2 [6, 5, 4, 3, 2] (v := .pointer (some ⟨L.g d.tx, 0, none⟩)) rfl (by kernel_rfl) (by kernel_rfl) (by kernel_rfl) (by kernel_rfl) (by kernel_rfl) (by kernel_rfl) (fun _ _ _ h => h) hS0 (by rfl) (fun w1 hS1 => by obtain ⟨s1, s2⟩ := hS1; have z0 := s1.cellS (i := 0) (v := .slice A3 (k + 1) c3) rfl; have z1 := s1.cellS (i := 1) (v := .slice A2 m c2) rfl; have y0 := s2.cellS (i := 0) (v := .int .i64 d.tx) rfl; have y3 := s2.cellS (i := 3) (v := .slice As d.seen.length cs) rfl; clear s1 s2; go_simp) ?_
      simp only [Act.put]
      refine wpTill_take 3 [6, 5, 4, 3] (v := .pointer (some ⟨L.g d.tx, 0, none⟩)) rfl (by kernel_rfl) (by kernel_rfl) (by kernel_rfl) (by kernel_rfl) (by kernel_rfl) (by kernel_rfl) (fun _ _ _ h => h) hS0 (by rfl) (fun w1 hS1 => by obtain ⟨s1, s2⟩ := hS1; have z0 := s1.cellS (i := 0) (v := .slice A3 (k + 1) c3) rfl; have z1 := s1.cellS (i := 1) (v := .slice A2 m c2) rfl; have y0 := s2.cellS (i := 0) (v := .int .i64 d.tx) rfl; have y3 := s2.cellS (i := 3) (v := .slice As d.seen.length cs) rfl; clear s1 s2; go_simp) ?_
      simp only [Act.put]
      refine wpTill_take 4 [6, 5, 4] (v := .pointer (some ⟨L.g d.tx, 3, none⟩)) rfl (by kernel_rfl) (by kernel_rfl) (by kernel_rfl) (by kernel_rfl) (by kernel_rfl) (by kernel_rfl) (fun _ _ _ h => h) hS0 (by rfl) (fun w1 hS1 => by obtain ⟨s1, s2⟩ := hS1; have z0 := s1.cellS (i := 0) (v := .slice A3 (k + 1) c3) rfl; have z1 := s1.cellS (i := 1) (v := .slice A2 m c2) rfl; have y0 := s2.cellS (i := 0) (v := .int .i64 d.tx) rfl; have y3 := s2.cellS (i := 3) (v := .slice As d.seen.length cs) rfl; clear s1 s2; go_simp) ?_
      simp only [Act.put]
      refine wpTill_take 5 [6, 5] (v := .slice As d.seen.length cs) rfl (by kernel_rfl) (by kernel_rfl) (by kernel_rfl) (by kernel_rfl) (by kernel_rfl) (by kernel_rfl) (fun _ _ _ h => h) hS0 (by rfl) (fun w1 hS1 => by obtain ⟨s1, s2⟩ := hS1; have z0 := s1.cellS (i := 0) (v := .slice A3 (k + 1) c3) rfl; have z1 := s1.cellS (i := 1) (v := .slice A2 m c2) rfl; have y0 := s2.cellS (i := 0) (v := .int .i64 d.tx) rfl; have y3 := s2.cellS (i := 3) (v := .slice As d.seen.length cs) rfl; clear s1 s2; go_simp) ?_
      simp only [Act.put]
      have hOd : w4.drew.ownsRow (w.heap.size + 2) 50 3 (.slice A2 m c2) m (cellsH ((s.dn.take k).flatMap (seenT s))) := ho2'
      have hRd : Rd w4.drew w4.drew.heap.size 3 As d.seen.length (cellsH d.seen) := rd_own hSd
      refine wpTill_one 6 rfl (by kernel_rfl) (fun K hK => ?_)
      have HK2 := Lib.hid hK
      clear hK
      refine step_app4 rfl (.tmp 26) (.tmp 30) _ rfl (w.heap.size + 2) slt_seen (n := m) (xs := cellsH ((s.dn.take k).flatMap (seenT s))) (m := d.seen.length) (news := cellsH d.seen) rfl hOd rfl hRd (oneH _) (by omega) (by simp; omega) ?_
      intro v5 w5 hown5 hg5 hb5 hat5
      obtain ⟨A5, c5, rfl⟩ := own_slice hown5
      have q0 := hBo.grown hg5 (fun j hj e => by have := hl2 j hj; omega)
      have q1 := hBe.grown hg5 (fun j hj e => by have := hl2 j hj; omega)
      have k0 := q0.cellS (i := 1) (v := .slice A2 m c2) rfl
      have k1 := q0.frozen 1
      refine HK2.out _ _ (fun _ => ⟨q0, q1⟩) ?_
      clear HK2 K
      simp only [Act.put]
      refine wpTill_one 7 rfl (by kernel_rfl) (fun K hK => ?_)
      have HK2 := Lib.hid hK
      clear hK
      go_simp
      refine HK2.out _ _ (fun _ => ⟨q0, q1⟩) ?_
      clear HK2 K
      refine wpTill_one 8 rfl (by kernel_rfl) (fun K hK => ?_)
      have HK2 := Lib.hid hK
      clear hK
      go_simp
      refine HK2.out _ _ (fun h => absurd rfl h) ?_
      clear HK2 K
      refine wpTill_done (by kernel_rfl) (NoPanic.normal ?_) _
      have hd4 : Below w4.heap.size w4 w4.drew := (Below.refl _ _).drew
      have hbw5 : Below w.heap.size w (w5.setCell ⟨w.heap.size + 1, 1, none⟩ (.slice A5 (m + d.seen.length) c5)) := ((hbw3.trans (hd4.mono hz4)).trans (hb5.mono (by omega))).setCell (p := ⟨w.heap.size + 1, 1, none⟩) (by simp) _
      have hB5x : Blk (w5.setCell ⟨w.heap.size + 1, 1, none⟩ (.slice A5 (m + d.seen.length) c5)) (w.heap.size + 1) 40 [.slice A3 (k + 1) c3, .slice A5 (m + d.seen.length) c5, .slice A n c] := q0.put 1 (.slice A5 (m + d.seen.length) c5)
      have ho2x : (w5.setCell ⟨w.heap.size + 1, 1, none⟩ (.slice A5 (m + d.seen.length) c5)).ownsRow (w.heap.size + 2) 50 3 (.slice A5 (m + d.seen.length) c5) (m + d.seen.length) (cellsH ((s.dn.take (k + 1)).flatMap (seenT s))) := own_far (by rw [HT2.out]; exact hown5) (by simp) _
      have ho1x : w5.ownsRow (w.heap.size + 2) 3 1 (.slice A3 (k + 1) c3) (k + 1) (cellsI (s.dn.take (k + 1))) := (own_below ho1' hd4 (Nat.le_refl _)).kept hg5 (by
        cases hv : (Value.slice A3 (k + 1) c3).ownBlock with
        | none => exact .inl rfl
        | some j => exact .inr fun e => HNE3.out j hv e.symm)
      have ho1x := own_far ho1x (p := ⟨w.heap.size + 1, 1, none⟩) (by simp) (.slice A5 (m + d.seen.length) c5)
      have hB4x : Blk (w5.setCell ⟨w.heap.size + 1, 1, none⟩ (.slice A5 (m + d.seen.length) c5)) w.heap.size 40 [.slice none 0 0, .slice none 0 0, .slice none 0 0] := (hB4'.drew.grown hg5 (fun j hj e => by have := hl2 j hj; omega)).far (by simp) _
      have HNE5 : Hid (∀ j, (Value.slice A3 (k + 1) c3).ownBlock = some j → (Value.slice A5 (m + d.seen.length) c5).ownBlock ≠ some j) := Lib.hid (fun j hj e => by
        rcases hat5 with h | h
        · exact HNE3.out j hj (h.symm.trans e)
        · rw [h] at e
          have := hl1 j hj
          injection e with e
          simp at e
          omega)
      generalize hW6 : w5.setCell ⟨w.heap.size + 1, 1, none⟩ (.slice A5 (m + d.seen.length) c5) = w6 at hbw5 hB5x ho1x ho2x hB4x ⊢
      clear hW6 q0 q1 k0 k1 hown5 hg5 hb5 hat5 hOd hRd hBo hBe hd4 hBd hSd hl1 hl2
      have hm' : m + d.seen.length ≤ (k + 1) * 41 := by omega
      go_wp2
      go_roundw
      case rel => exact ⟨k + 1, _, _, _, by omega, by go_num, hm', hB4x, hB5x, ho1x, ho2x, HNE5, hbw5⟩
      case measure => simp [intOf]; omega
    · obtain rfl : k = s.dn.length := by omega
      rw [List.take_length] at ho1 ho2
      rw [← HE.out] at ho2
      obtain rfl := own_lenH ho2
      obtain ⟨A1, c1, rfl⟩ := own_slice ho1
      obtain ⟨A2, c2, rfl⟩ := own_slice ho2
      have hz := hbw.size
      have z0 := hB5.cellS (i := 0) (v := .slice A1 s.dn.length c1) rfl
      have z1 := hB5.cellS (i := 1) (v := .slice A2 R.length c2) rfl
      have z2 := hB5.cellS (i := 2) (v := .slice A n c) rfl
      have x0 := hB4.cellS (i := 0) (v := .slice none 0 0) rfl
      have x1 := hB4.cellS (i := 1) (v := .slice none 0 0) rfl
      have x2 := hB4.cellS (i := 2) (v := .slice none 0 0) rfl
      have f0 := hB4.frozen 0
      have f1 := hB4.frozen 1
      have f2 := hB4.frozen 2
      have hR := ((hB4.put 0 (.slice A1 s.dn.length c1)).put 1 (.slice A2 R.length c2)).put 2 (.slice A n c)
      have r0 := hR.cellS (i := 0) (v := .slice A1 s.dn.length c1) rfl
      have r1 := hR.cellS (i := 1) (v := .slice A2 R.length c2) rfl
      have r2 := hR.cellS (i := 2) (v := .slice A n c) rfl
      have hbx := ((hbw.setCell (p := ⟨w.heap.size, 0, none⟩) (Nat.le_refl _) (.slice A1 s.dn.length c1)).setCell (p := ⟨w.heap.size, 1, none⟩) (Nat.le_refl _) (.slice A2 R.length c2)).setCell (p := ⟨w.heap.size, 2, none⟩) (Nat.le_refl _) (.slice A n c)
      have o1 := own_far (own_far (own_far ho1 (p := ⟨w.heap.size, 0, none⟩) (by simp) (.slice A1 s.dn.length c1)) (p := ⟨w.heap.size, 1, none⟩) (by simp) (.slice A2 R.length c2)) (p := ⟨w.heap.size, 2, none⟩) (by simp) (.slice A n c)
      have o2 := own_far (own_far (own_far ho2 (p := ⟨w.heap.size, 0, none⟩) (by simp) (.slice A1 s.dn.length c1)) (p := ⟨w.heap.size, 1, none⟩) (by simp) (.slice A2 R.length c2)) (p := ⟨w.heap.size, 2, none⟩) (by simp) (.slice A n c)
      have HO := hide (And.intro o1 o2)
      clear o1 o2 ho1 ho2 hR
      go_wp2
      refine bodyPost_ret (v := .agg #[.slice A1 s.dn.length c1, .slice A2 R.length c2, .slice A n c]) (by simp [results, Tryz.results36, go_sem, r0, r1, r2]) rfl ?_
      exact ⟨_, _, rfl, (unhide HO).1, (unhide HO).2, HNE.out, hbx⟩
end Go.Proofs.YtmehghkpghbpjaaGreat


namespace Go.Proofs.YtmehghkpghbpjaaGreat
open Go.RowKit

theorem call_snapSee (args : Array Value) (w : World) : (callFunc 42 args).run Tryz.prog w = .ok (.enter 42 args) w := by kernel_rfl
theorem call_snapMay (args : Array Value) (w : World) : (callFunc 43 args).run Tryz.prog w = .ok (.enter 43 args) w := by kernel_rfl
theorem call_snapMay1 (args : Array Value) (w : World) : (callFunc 73 args).run Tryz.prog w = .ok (.enter 73 args) w := by kernel_rfl
set_option maxHeartbeats 1000000 in
theorem snapSee_any {tk tl : TypeId} {lo : Nat} {s : VSt} {L : VLay} {tag : Nat → Int × Nat} {k0 : Nat} (w : World) (H : VHeap (vT tk tl) lo w s L tag) (hk : VOk k0 s) {d : Dl} (hd : d ∈ s.ds) {i : Int} (hi : 1 ≤ i) (hi2 : i ≤ 6) (v2 : Value) :
    Calls Tryz.prog 42 #[.pointer (some ⟨L.g d.tx, 0, none⟩), .int .i64 i, v2, L.vd] w fun e w' => e = .returned (.int .i64 (snapR.see s d i)) ∧ Below w.heap.size w w' := by
  have hD := H.deals d hd
  have hl := (hk.deals d hd).snap
  obtain ⟨A, c, hv⟩ := own_slice hD.snap
  have hB := hD.blk
  have hr := hD.snap
  rw [hv] at hB hr
  rw [hl] at hr hB
  obtain ⟨j, hj⟩ : ∃ j : Nat, i.toNat - 1 = j := ⟨_, rfl⟩
  have hj6 : j < 6 := by omega
  have e5 := hB.cellS (i := 5) (v := .slice A 6 c) rfl
  obtain ⟨b, off, x, he, hb, hx, c0⟩ := (rd_own hr).int (k := j) hj6
  cases he
  have i1 : IntKind.i64.wrap (i - 1) = (j : Int) := by
    rw [show i - 1 = (j : Int) by omega]; exact IntWalk.i64_in _ (by omega)
  have i2 : (0 : Int) ≤ (j : Int) := by omega
  have i3 : (j : Int) < 6 := by omega
  have i4 : (j : Int) < ((6 : Nat) : Int) := by omega
  have HX : Hid (snapR.see s d i = x) := Lib.hid (by
    show d.snap.getD (i.toNat - 1) 0 = x
    rw [hj, List.getD_eq_getElem?_getD, hx]; rfl)
  generalize snapR.see s d i = R at *
  generalize L.vd = vd at *
  generalize L.g d.tx = g at *
  clear hD hr hl hv H hk hx hj hj6
  go_enter Tryz.func42, Tryz.ntmps42
  go_wp2
  go_ret
  exact ⟨ret_int HX.out.symm, Below.refl _ _⟩
set_option maxHeartbeats 1000000 in
theorem snapMay1_any (gb gd : Nat) (c0 c1 c2 : Int) (c3 c5 : Value) (A : Option Addr) (n c : Nat) (l : List Int) (i : Int) (w : World) (hb : Blk w gb 84 [.pointer (some ⟨gd, 0, none⟩)]) (hd : Blk w gd 88 [.int .i64 c0, .int .i64 c1, .int .i64 c2, c3, .slice A n c, c5]) (hr : Rd w w.heap.size 1 A n (cellsI l)) (hm : n ≤ 1000000) :
    Calls Tryz.prog 73 #[.int .i64 i, .pointer (some ⟨gb, 0, none⟩)] w fun e w' => e = .returned (.bool (decide (i ∈ l))) ∧ Below w.heap.size w w' := by
  have e0 := hb.cellS (i := 0) (v := .pointer (some ⟨gd, 0, none⟩)) rfl
  have e4 := hd.cellS (i := 4) (v := .slice A n c) rfl
  have C := hide (icontains_rd A n c l i w _ hr (by omega))
  clear hb hd hr
  go_enter Tryz.func73, Tryz.ntmps73
  go_wp2_with fail
  refine (unhide C).mono ?_
  rintro e w2 ⟨rfl, rfl⟩
  go_wp2
  go_ret
  exact ⟨rfl, Below.refl _ _⟩
set_option maxHeartbeats 1000000 in
theorem snapMay_any {tk tl : TypeId} {lo : Nat} {s : VSt} {L : VLay} {tag : Nat → Int × Nat} {k0 : Nat} (w : World) (H : VHeap (vT tk tl) lo w s L tag) (hk : VOk k0 s) (hk0 : k0 ≤ 1000) {d : Dl} (hd : d ∈ s.ds) :
    Calls Tryz.prog 43 #[.pointer (some ⟨L.g d.tx, 0, none⟩), L.vd] w fun e w' => e = .returned (.bool (snapR.may s d)) ∧ Below w.heap.size w w' := by
  obtain ⟨Ad, cd, hvd⟩ := own_slice H.done
  have hD := H.deals d hd
  obtain ⟨Aw, cw, hvw⟩ := own_slice hD.wrote
  have hB := hD.blk
  have hw := hD.wrote
  rw [hvw] at hB hw
  have hwl := (hk.deals d hd).wrote
  have hb1 : Below w.heap.size w (w.alloc (.cells #[.pointer (some ⟨L.g d.tx, 0, none⟩)] 84)) := (Below.refl _ _).alloc (Nat.le_refl _) _
  have g0 := Blk.new w 84 [.pointer (some ⟨L.g d.tx, 0, none⟩)]
  have hB1 := hB.alloc (.cells #[.pointer (some ⟨L.g d.tx, 0, none⟩)] 84)
  have hw1 := own_alloc hw (.cells #[.pointer (some ⟨L.g d.tx, 0, none⟩)] 84)
  have e0 := g0.cellS (i := 0) (v := .pointer (some ⟨L.g d.tx, 0, none⟩)) rfl
  have e1 := hB1.cellS (i := 1) (v := .int .i64 d.began) rfl
  have C := hide (since_any _ (H.below hb1) hk hk0 d.began 73 #[] #[.pointer (some ⟨w.heap.size, 0, none⟩)] (fun i => decide (i ∈ d.wrote)) call_snapMay1 (fun i w' hb => snapMay1_any w.heap.size (L.g d.tx) d.tx d.began d.ended (L.vs d.tx) (L.vp d.tx) Aw d.wrote.length cw d.wrote i w' (g0.below hb g0.lt) (hB1.below hb hB1.lt) (((rd_own hw1).below hb).more hb.size) (by omega)))
  have HR : Hid (snapR.may s d = !sinceD d.began (doneD s) fun i => decide (i ∈ d.wrote)) := Lib.hid rfl
  rw [hvd] at C ⊢
  generalize snapR.may s d = R at *
  generalize sinceD d.began (doneD s) (fun i => decide (i ∈ d.wrote)) = q at *
  generalize d.began = bg at *
  generalize L.g d.tx = g at *
  clear hD hw hw1 hB hB1 g0 H hk hvd hvw hd hwl
  go_enter Tryz.func43, Tryz.ntmps43
  go_wp2_with fail
  refine (unhide C).mono ?_
  rintro e w2 ⟨rfl, hb2⟩
  go_wp2
  go_ret
  exact ⟨ret_bool HR.out.symm, hb1.trans (hb2.mono hb1.size)⟩
end Go.Proofs.YtmehghkpghbpjaaGreat


namespace Go.Proofs.YtmehghkpghbpjaaGreat
open Go.RowKit

theorem own_capV {w : World} {base : Nat} {e : TypeId} {size : Nat} {A : Option Addr} {n c : Nat} {xs : List Value} (h : w.ownsRow base e size (.slice A n c) n xs) : n ≤ c := by
  obtain ⟨_, ⟨he, h0⟩ | ⟨g, cap, cur, he, _, _, h1, _⟩⟩ := h
  · omega
  · injection he with e1 e2 e3; omega
/-- An outcome: who is done, what was seen, who wrote last. -/
def OutC (w w' : World) (e : Ending) (dn : List Int) (seen : List HOp) (last : List Int) : Prop :=
  ∃ A1 c1 A2 c2 b n1 n2, e = .returned (.tuple #[.agg #[.slice A1 n1 c1, .slice A2 n2 c2, .slice (some ⟨b, 0, none⟩) 6 6], .nilIface]) ∧ Rd w' w'.heap.size 1 A1 n1 (cellsI dn) ∧ Rd w' w'.heap.size 3 A2 n2 (cellsH seen) ∧ Rd w' w'.heap.size 1 (some ⟨b, 0, none⟩) 6 (cellsI last) ∧ Below w.heap.size w w' ∧ n1 ≤ c1
set_option maxRecDepth 100000 in
set_option maxHeartbeats 4000000 in
theorem snap_run (A : Option Addr) (n c : Nat) (h : List HOp) (w : World) (hr : Rd w w.heap.size 3 A n (cellsH h)) (hm : n ≤ 6000000000000) (hok : okH h) :
    Calls Tryz.prog 16 #[.slice A n c] w fun e w' => OutC w w' e (playV snapR h).dn (seenOf (playV snapR h)) (playV snapR h).last := by
  have CR := hide (fun w1 (hb : Below w.heap.size w w1) => right_h A n c h w1 ((hr.below hb).more hb.size) hm)
  rw [show (checkF h).2 = 0 from hok] at CR
  have hlen := okH_len hok
  have hn : n ≤ 40 := by rw [← hr.hlen]; exact hlen
  have CP := hide (fun w1 (hb : Below w.heap.size w w1) => vplay_any (tk := 3) (tl := 3) A n c h snapR (fun s d i => Nat.le_succ _) 42 43 #[] #[] #[] #[] w1 w1 none (.inl ⟨rfl, rfl⟩) (Below.refl _ _) ((hr.below hb).more hb.size) hn (okH_right hok) call_snapSee call_snapMay
    (fun s L tag w2 d i H hk hd h1 h2 _ => ((fun w2 H hk hd h1 h2 => snapSee_any w2 H hk hd h1 h2 _) w2 H hk hd h1 h2).mono fun e w' ⟨he, hb⟩ => ⟨he, L, tag, Looked.none H hb⟩)
    (fun s L tag w2 d H hk hd _ => (snapMay_any w2 H hk (by omega) hd).mono fun e w' ⟨he, hb⟩ => ⟨he, hb⟩))
  have HZ := hide (fun w1 (hb : Below (w.heap.size + 1) (w.alloc (.cells #[.slice none 0 0, .slice none 0 0, .slice none 0 0] 40)) w1) => (Blk.new w 40 [.slice none 0 0, .slice none 0 0, .slice none 0 0]).below hb (Nat.lt_succ_self _))
  have hb0 : Below w.heap.size w (w.alloc (.cells #[.slice none 0 0, .slice none 0 0, .slice none 0 0] 40)) := (Below.refl _ _).alloc (Nat.le_refl _) _
  have HB0 := hide hb0
  have hz0 : (w.alloc (.cells #[.slice none 0 0, .slice none 0 0, .slice none 0 0] 40)).heap.size = w.heap.size + 1 := by simp
  have HP : Hid (playV snapR h = playV snapR h) := Lib.hid rfl
  generalize playV snapR h = s at *
  clear hr hok hb0 hlen
  go_enter Tryz.func16, Tryz.ntmps16
  go_wp2_with fail
  refine (unhide CR _ (unhide HB0)).mono ?_
  rintro e w1 ⟨rfl, hb1⟩
  have hbw1 := (unhide HB0).trans (hb1.mono (unhide HB0).size)
  have hz1 := hb1.size
  have hbz1 : Below (w.heap.size + 1) (w.alloc (.cells #[.slice none 0 0, .slice none 0 0, .slice none 0 0] 40)) w1 := hb1.mono (by omega)
  rw [errV_zero]
  go_wp2_with fail
  refine (unhide CP w1 hbw1).mono ?_
  rintro e w2 ⟨L, tag, rfl, hP2, hk2⟩
  have hb2 := hP2.below
  have hz2 := hb2.size
  have hlB := hP2.heap.last
  rw [hP2.gl] at hlB
  have hl6 := hk2.last
  have CO := hide (out_any w2 hP2.heap hk2 (by omega) (some ⟨w1.heap.size + 1, 0, none⟩) 6 6)
  have hbw2 := hbw1.trans (hb2.mono hbw1.size)
  have hbz2 := hbz1.trans (hb2.mono (by omega))
  clear hP2 hk2
  go_wp2_with fail
  refine (unhide CO).mono ?_
  rintro e w3 ⟨v1, v2, rfl, ho1, ho2, _, hb3⟩
  have hz3 := hb3.size
  have hbw3 := hbw2.trans (hb3.mono hbw2.size)
  have hB4 := unhide HZ w3 (hbz2.trans (hb3.mono (by omega)))
  have hl3 := hlB.below hb3 hlB.lt
  obtain ⟨A1, c1, rfl⟩ := own_slice ho1
  obtain ⟨A2, c2, rfl⟩ := own_slice ho2
  have x0 := hB4.cellS (i := 0) (v := .slice none 0 0) rfl
  have x1 := hB4.cellS (i := 1) (v := .slice none 0 0) rfl
  have x2 := hB4.cellS (i := 2) (v := .slice none 0 0) rfl
  have f0 := hB4.frozen 0
  have f1 := hB4.frozen 1
  have f2 := hB4.frozen 2
  have hR := ((hB4.put 0 (.slice A1 s.dn.length c1)).put 1 (.slice A2 (seenOf s).length c2)).put 2 (.slice (some ⟨w1.heap.size + 1, 0, none⟩) 6 6)
  have r0 := hR.cellS (i := 0) (v := .slice A1 s.dn.length c1) rfl
  have r1 := hR.cellS (i := 1) (v := .slice A2 (seenOf s).length c2) rfl
  have r2 := hR.cellS (i := 2) (v := .slice (some ⟨w1.heap.size + 1, 0, none⟩) 6 6) rfl
  have hbx := ((hbw3.setCell (p := ⟨w.heap.size, 0, none⟩) (Nat.le_refl _) (.slice A1 s.dn.length c1)).setCell (p := ⟨w.heap.size, 1, none⟩) (Nat.le_refl _) (.slice A2 (seenOf s).length c2)).setCell (p := ⟨w.heap.size, 2, none⟩) (Nat.le_refl _) (.slice (some ⟨w1.heap.size + 1, 0, none⟩) 6 6)
  have o1 := own_far (own_far (own_far ho1 (p := ⟨w.heap.size, 0, none⟩) (by simp; omega) (.slice A1 s.dn.length c1)) (p := ⟨w.heap.size, 1, none⟩) (by simp; omega) (.slice A2 (seenOf s).length c2)) (p := ⟨w.heap.size, 2, none⟩) (by simp; omega) (.slice (some ⟨w1.heap.size + 1, 0, none⟩) 6 6)
  have o2 := own_far (own_far (own_far ho2 (p := ⟨w.heap.size, 0, none⟩) (by simp; omega) (.slice A1 s.dn.length c1)) (p := ⟨w.heap.size, 1, none⟩) (by simp; omega) (.slice A2 (seenOf s).length c2)) (p := ⟨w.heap.size, 2, none⟩) (by simp; omega) (.slice (some ⟨w1.heap.size + 1, 0, none⟩) 6 6)
  have o3 := ((hl3.far (p := ⟨w.heap.size, 0, none⟩) (by simp; omega) (.slice A1 s.dn.length c1)).far (p := ⟨w.heap.size, 1, none⟩) (by simp; omega) (.slice A2 (seenOf s).length c2)).far (p := ⟨w.heap.size, 2, none⟩) (by simp; omega) (.slice (some ⟨w1.heap.size + 1, 0, none⟩) 6 6)
  have o4 := rd_own (own_blk o3 (base := 0) (size := 1) (n := 6) (Nat.zero_le _) (by decide) (by unfold cellsI; rw [List.length_map, hl6]))
  have HO := hide (And.intro (rd_own o1) (And.intro (rd_own o2) o4))
  have hcap := own_capV ho1
  clear o1 o2 o3 o4 ho1 ho2 hR hB4 hlB hl3
  go_wp2
  refine bodyPost_ret (v := .tuple #[.agg #[.slice A1 s.dn.length c1, .slice A2 (seenOf s).length c2, .slice (some ⟨w1.heap.size + 1, 0, none⟩) 6 6], .nilIface]) (by simp [results, Tryz.results16, go_sem, r0, r1, r2]) rfl ?_
  exact ⟨A1, c1, A2, c2, w1.heap.size + 1, _, _, rfl, (unhide HO).1, (unhide HO).2.1, (unhide HO).2.2, hbx, hcap⟩
set_option maxRecDepth 100000 in
set_option maxHeartbeats 4000000 in
theorem snap_no (A : Option Addr) (n c : Nat) (h : List HOp) (w : World) (hr : Rd w w.heap.size 3 A n (cellsH h)) (hm : n ≤ 6000000000000) (hno : ¬ okH h) :
    Calls Tryz.prog 16 #[.slice A n c] w fun e w' => e = .returned (.tuple #[.agg #[.slice none 0 0, .slice none 0 0, .slice none 0 0], errV (checkF h).2]) ∧ Below w.heap.size w w' := by
  have CR := hide (fun w1 (hb : Below w.heap.size w w1) => right_h A n c h w1 ((hr.below hb).more hb.size) hm)
  rw [ne_errV (show (checkF h).2 ≠ 0 from hno)] at CR ⊢
  generalize (checkF h).2 = ev at *
  have HZ := hide (fun w1 (hb : Below (w.heap.size + 1) (w.alloc (.cells #[.slice none 0 0, .slice none 0 0, .slice none 0 0] 40)) w1) => (Blk.new w 40 [.slice none 0 0, .slice none 0 0, .slice none 0 0]).below hb (Nat.lt_succ_self _))
  have hb0 : Below w.heap.size w (w.alloc (.cells #[.slice none 0 0, .slice none 0 0, .slice none 0 0] 40)) := (Below.refl _ _).alloc (Nat.le_refl _) _
  have HB0 := hide hb0
  have hz0 : (w.alloc (.cells #[.slice none 0 0, .slice none 0 0, .slice none 0 0] 40)).heap.size = w.heap.size + 1 := by simp
  clear hr hno hb0
  go_enter Tryz.func16, Tryz.ntmps16
  go_wp2_with fail
  refine (unhide CR _ (unhide HB0)).mono ?_
  rintro e w1 ⟨rfl, hb1⟩
  have hbw1 := (unhide HB0).trans (hb1.mono (unhide HB0).size)
  have hB4 := unhide HZ w1 (hb1.mono (by omega))
  have x0 := hB4.cellS (i := 0) (v := .slice none 0 0) rfl
  have x1 := hB4.cellS (i := 1) (v := .slice none 0 0) rfl
  have x2 := hB4.cellS (i := 2) (v := .slice none 0 0) rfl
  have f0 := hB4.frozen 0
  have f1 := hB4.frozen 1
  have f2 := hB4.frozen 2
  have hR := ((hB4.put 0 (.slice none 0 0)).put 1 (.slice none 0 0)).put 2 (.slice none 0 0)
  have r0 := hR.cellS (i := 0) (v := .slice none 0 0) rfl
  have r1 := hR.cellS (i := 1) (v := .slice none 0 0) rfl
  have r2 := hR.cellS (i := 2) (v := .slice none 0 0) rfl
  have hbx := ((hbw1.setCell (p := ⟨w.heap.size, 0, none⟩) (Nat.le_refl _) (.slice none 0 0)).setCell (p := ⟨w.heap.size, 1, none⟩) (Nat.le_refl _) (.slice none 0 0)).setCell (p := ⟨w.heap.size, 2, none⟩) (Nat.le_refl _) (.slice none 0 0)
  clear hR hB4 HZ HB0 CR
  go_wp2
  refine bodyPost_ret (v := .tuple #[.agg #[.slice none 0 0, .slice none 0 0, .slice none 0 0], .iface 57 (.int .i64 ev)]) (by simp [results, Tryz.results16, go_sem, r0, r1, r2]) rfl ?_
  exact ⟨rfl, hbx⟩
end Go.Proofs.YtmehghkpghbpjaaGreat
