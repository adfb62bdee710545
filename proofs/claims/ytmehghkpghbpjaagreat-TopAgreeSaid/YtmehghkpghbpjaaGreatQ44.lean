
/-
  CONTRACTS of versions' keeper: see, may.
  CONTRACT of versions.Run's comparer.
  CONTRACT of versions.Run: what any ops come to, with versions.
-/
import Derived.Test.YtmehghkpghbpjaaGreatValidPlay
import Derived.Test.YtmehghkpghbpjaaGreatQ12
import Derived.Test.YtmehghkpghbpjaaGreatQ41
import Derived.Test.YtmehghkpghbpjaaGreatQ40
import Derived.Test.YtmehghkpghbpjaaGreatQ28

namespace Go.Proofs.YtmehghkpghbpjaaGreat
open Go.RowKit

theorem slt_look : SlT Tryz.prog 94 139 3 24 := slt_of (z := .agg #[.int .i64 0, .int .i64 0, .int .i64 0]) Tryz.underlying94 (by kernel_rfl) (by kernel_rfl) (by decide) (by decide)
theorem whoV_step {ds : List Dl} {k : Nat} {e : Dl} (he : ds[k]? = some e) (item below : Int) : whoV (ds.take (k + 1)) item below = if decide (e.tx < below) && decide (item ∈ e.wrote) then max (whoV (ds.take k) item below) e.tx else whoV (ds.take k) item below := by
  rw [takeSnoc he, whoV_snoc]
theorem call_verSee (args : Array Value) (w : World) : (callFunc 44 args).run Tryz.prog w = .ok (.enter 44 args) w := by kernel_rfl
set_option maxRecDepth 100000 in
set_option maxHeartbeats 4000000 in
theorem verSee_any {lo : Nat} {s : VSt} {L : VLay} {tag : Nat → Int × Nat} {k0 : Nat} (w : World) (H : VHeap (vT 96 139) lo w s L tag) (hk : VOk k0 s) (hk0 : k0 ≤ 41) {d : Dl} (hd : d ∈ s.ds) (i : Int) (v3 : Value) (hkp : L.kp.map (·.1) = some lo) :
    Calls Tryz.prog 44 #[.pointer (some ⟨lo, 0, none⟩), .pointer (some ⟨L.g d.tx, 0, none⟩), .int .i64 i, v3, L.vd] w fun e w' => e = .returned (.int .i64 (verR.see s d i)) ∧ ∃ L' tag', Looked (vT 96 139) lo w w' { s with looks := verR.look s d i } L L' tag tag' := by
  obtain ⟨kv, hkv⟩ : ∃ v, L.kp = some (lo, v) := by
    cases hl : L.kp with
    | none => rw [hl] at hkp; cases hkp
    | some p =>
      rw [hl] at hkp
      exact ⟨p.2, by rw [← Option.some.inj hkp]⟩
  have hK := H.keep
  rw [hkv] at hK
  obtain ⟨k1, _, k3, k4, k5⟩ := hK
  obtain ⟨Ak, ck, rfl⟩ := own_slice k4
  obtain ⟨Ad, cd, hvd⟩ := own_slice H.done
  have hdl : s.dn.length ≤ 41 := by have := hk.dn; omega
  have hlk : s.looks.length ≤ 41 := by have := hk.looks; omega
  have HDn := hide (fun w' (hb : Below w.heap.size w w') => (show Rd w' w.heap.size 1 Ad s.dn.length (s.dn.map (ptrD L)) from (rd_own (by rw [← hvd]; exact H.done)).below hb))
  have HDl := hide (fun w' (hb : Below w.heap.size w w') t (ht : t ∈ s.dn) => (show ∃ Aw cw, Blk w' (L.g t) 88 [.int .i64 t, .int .i64 (dgd s t).began, .int .i64 (dgd s t).ended, L.vs t, .slice Aw (dgd s t).wrote.length cw, L.vp t] ∧ (dgd s t).tx = t ∧ Rd w' w'.heap.size 1 Aw (dgd s t).wrote.length (cellsI (dgd s t).wrote) ∧ (dgd s t).wrote.length ≤ 41 from by
    obtain ⟨e, he, rfl⟩ := List.mem_map.1 (H.sub t ht)
    have hg : dgd s e.tx = e := by unfold dgd; rw [dget_mem H.nodup he]; rfl
    rw [hg]
    have hD := (H.below hb).deals e he
    obtain ⟨Aw, cw, hvw⟩ := own_slice hD.wrote
    have h1 := hD.blk
    have h2 := hD.wrote
    rw [hvw] at h1 h2
    exact ⟨Aw, cw, h1, rfl, rd_own h2, by have := (hk.deals e he).wrote; omega⟩))
  have hBd := (H.deals d hd).blk
  have HBD := hide (fun w' (hb : Below w.heap.size w w') => hBd.below hb hBd.lt)
  have HBK := hide (fun w' (hb : Below w.heap.size w w') => k1.below hb k1.lt)
  have HOK := hide (fun w' (hb : Below w.heap.size w w') => own_below k4 hb (Nat.le_refl _))
  have HV : Hid (verR.see s d i = whoV (doneD s) i d.tx) := Lib.hid rfl
  have HLk : Hid (verR.look s d i = s.looks ++ [⟨i, whoV (doneD s) i d.tx, d.tx⟩]) := Lib.hid rfl
  have HH := hide H
  rw [hvd]
  generalize verR.see s d i = R at *
  clear H hBd k1 k4 hvd hkp
  go_enter Tryz.func44, Tryz.ntmps44
  go_wp2
  go_loopw [11, 16] (fun s11 s16 wr => ∃ k : Nat, k ≤ s.dn.length ∧ s16 = .int .i64 k ∧ s11 = .int .i64 (whoV ((doneD s).take k) i d.tx) ∧ Below w.heap.size w wr) (fun _ s16 _ => s.dn.length - (intOf s16).toNat)
  case atStart => exact ⟨0, Nat.zero_le _, rfl, rfl, Below.refl _ _⟩
  case round =>
    obtain ⟨k, hkn, rfl, rfl, hbw⟩ := hrel
    by_cases hlt : k < s.dn.length
    · obtain ⟨b, off, t, he, hb, ht, c0⟩ := (unhide HDn wr hbw).ptr (k := k) hlt
      cases he
      have htm := List.mem_of_getElem? ht
      have hDk : (doneD s)[k]? = some (dgd s t) := by rw [doneD_dgd, List.getElem?_map, ht]; rfl
      obtain ⟨Aw, cw, hBt, htx, hrw, hwl⟩ := unhide HDl wr hbw t htm
      have HST := Lib.hid (whoV_step hDk i d.tx)
      have hBd := unhide HBD wr hbw
      have e0 := hBt.cellS (i := 0) (v := .int .i64 t) rfl
      have e4 := hBt.cellS (i := 4) (v := .slice Aw _ cw) rfl
      have f0 := hBd.cellS (i := 0) (v := .int .i64 d.tx) rfl
      have HTX := Lib.hid htx
      obtain ⟨f, hf⟩ : ∃ f, whoV ((doneD s).take k) i d.tx = f := ⟨_, rfl⟩
      have HSF : Hid (whoV ((doneD s).take (k + 1)) i d.tx = if decide (t < d.tx) && decide (i ∈ (dgd s t).wrote) then max f t else f) := Lib.hid (by rw [HST.out, hf, htx])
      rw [hf]
      clear ht htm hDk hBt hBd htx HST hf
      by_cases h1 : t < d.tx
      · have hd1 : decide (t < d.tx) = true := decide_eq_true h1
        by_cases h2 : i ∈ (dgd s t).wrote
        · have hd2 : decide (i ∈ (dgd s t).wrote) = true := decide_eq_true h2
          have CI := hide (fun m => (icontains_rd Aw _ cw (dgd s t).wrote i (wr.drewN m) _ (show Rd (wr.drewN m) _ 1 _ _ _ from hrw) (by omega)).mono fun _ _ ⟨a1, a2⟩ => (And.intro a1 a2.symm))
          rw [hd2] at CI
          have HS2 : Hid (whoV ((doneD s).take (k + 1)) i d.tx = max f t) := Lib.hid (by rw [HSF.out, hd1, hd2]; rfl)
          clear hrw h2
          go_upto_region 5 with fail
          go_quiet ((go_at_call 65; exact Calls.quiet_of_same (unhide CI _)))
          clear CI
          go_wp2
          go_roundw
          case rel => exact ⟨k + 1, by omega, by go_num, by rw [HS2.out], below_drewN hbw _⟩
          case measure => simp [intOf]; omega
        · have hd2 : decide (i ∈ (dgd s t).wrote) = false := decide_eq_false h2
          have CI := hide (fun m => (icontains_rd Aw _ cw (dgd s t).wrote i (wr.drewN m) _ (show Rd (wr.drewN m) _ 1 _ _ _ from hrw) (by omega)).mono fun _ _ ⟨a1, a2⟩ => (And.intro a1 a2.symm))
          rw [hd2] at CI
          have HS2 : Hid (whoV ((doneD s).take (k + 1)) i d.tx = f) := Lib.hid (by rw [HSF.out, hd1, hd2]; rfl)
          clear hrw h2
          go_upto_region 5 with fail
          go_quiet ((go_at_call 65; exact Calls.quiet_of_same (unhide CI _)))
          clear CI
          go_wp2
          go_roundw
          case rel => exact ⟨k + 1, by omega, by go_num, by rw [HS2.out], below_drewN hbw _⟩
          case measure => simp [intOf]; omega
      · have hd1 : decide (t < d.tx) = false := decide_eq_false h1
        have HS2 : Hid (whoV ((doneD s).take (k + 1)) i d.tx = f) := Lib.hid (by rw [HSF.out, hd1]; rfl)
        clear hrw
        go_upto_region 5 with fail
        go_quiet (fail)
        go_wp2
        go_roundw
        case rel => exact ⟨k + 1, by omega, by go_num, by rw [HS2.out], below_drewN hbw _⟩
        case measure => simp [intOf]; omega
    · have HT : Hid (whoV ((doneD s).take k) i d.tx = whoV (doneD s) i d.tx) := Lib.hid (by rw [List.take_of_length_le (by rw [doneD_dgd, List.length_map]; omega)])
      rw [HT.out]
      have hKb := unhide HBK wr hbw
      have hBd := unhide HBD wr hbw
      have hOw := unhide HOK wr hbw
      have hlo : lo < w.heap.size := (unhide HBK w (Below.refl _ _)).lt
      have hz := hbw.size
      obtain ⟨f, hf⟩ : ∃ f, whoV (doneD s) i d.tx = f := ⟨_, rfl⟩
      rw [hf] at HV HLk ⊢
      clear HT hf HDn HDl HBK HBD HOK
      have NS := hide (fun j (hj : (Value.slice Ak s.looks.length ck).ownBlock = some j) => show j ≠ lo ∧ j ≠ L.g d.tx from ⟨fun e => by
        have := k5 j hj
        rw [e, k3] at this
        injection this with _ e2
        omega, fun e => by
        have := k5 j hj
        rw [e, ((unhide HH).deals d hd).blkM] at this
        injection this with _ e2
        omega⟩)
      generalize hdx : d.tx = dx at *
      go_upto_region 8 with fail
      have hBo := hKb.drew
      have hBe := hBd.drew
      refine wp_region_noPanic ?_
      refine wp_region_till (fun w' => Blk w' lo 96 [.slice Ak s.looks.length ck] ∧ Blk w' (L.g dx) 88 [.int .i64 dx, .int .i64 d.began, .int .i64 d.ended, L.vs dx, L.vw dx, L.vp dx]) 16 (by kernel_rfl) ⟨hBo, hBe⟩ (fun hS0 => ?_)
      refine wpTill_take 0 [15, 14, 0] (v := .pointer (some ⟨lo, 0, none⟩)) rfl (by kernel_rfl) (by kernel_rfl) (by kernel_rfl) (by kernel_rfl) (by kernel_rfl) (by kernel_rfl) (fun _ _ _ h => h) hS0 (by rfl) (fun w1 hS1 => by obtain ⟨s1, s2⟩ := hS1; have z0 := s1.cellS (i := 0) (v := .slice Ak s.looks.length ck) rfl; have y0 := s2.cellS (i := 0) (v := .int .i64 dx) rfl; clear s1 s2; go_simp) ?_
      simp only [Act.put]
      refine wpTill_take 1 [13, 4, 3, 2, 1] (v := .pointer (some ⟨lo, 0, none⟩)) rfl (by kernel_rfl) (by kernel_rfl) (by kernel_rfl) (by kernel_rfl) (by kernel_rfl) (by kernel_rfl) (fun _ _ _ h => h) hS0 (by rfl) (fun w1 hS1 => by obtain ⟨s1, s2⟩ := hS1; have z0 := s1.cellS (i := 0) (v := .slice Ak s.looks.length ck) rfl; have y0 := s2.cellS (i := 0) (v := .int .i64 dx) rfl; clear s1 s2; go_simp) ?_
      simp only [Act.put]
      refine wpTill_take 2 [13, 4, 3, 2] (v := .pointer (some ⟨lo, 0, none⟩)) rfl (by kernel_rfl) (by kernel_rfl) (by kernel_rfl) (by kernel_rfl) (by kernel_rfl) (by kernel_rfl) (fun _ _ _ h => h) hS0 (by rfl) (fun w1 hS1 => by obtain ⟨s1, s2⟩ := hS1; have z0 := s1.cellS (i := 0) (v := .slice Ak s.looks.length ck) rfl; have y0 := s2.cellS (i := 0) (v := .int .i64 dx) rfl; clear s1 s2; go_simp) ?_
      simp only [Act.put]
      refine wpTill_take 3 [13, 4, 3] (v := .pointer (some ⟨lo, 0, none⟩)) rfl (by kernel_rfl) (by kernel_rfl) (by kernel_rfl) (by kernel_rfl) (by kernel_rfl) (by kernel_rfl) (fun _ _ _ h => h) hS0 (by rfl) (fun w1 hS1 => by obtain ⟨s1, s2⟩ := hS1; have z0 := s1.cellS (i := 0) (v := .slice Ak s.looks.length ck) rfl; have y0 := s2.cellS (i := 0) (v := .int .i64 dx) rfl; clear s1 s2; go_simp) ?_
      simp only [Act.put]
      refine wpTill_take 4 [13, 4] (v := .slice Ak s.looks.length ck) rfl (by kernel_rfl) (by kernel_rfl) (by kernel_rfl) (by kernel_rfl) (by kernel_rfl) (by kernel_rfl) (fun _ _ _ h => h) hS0 (by rfl) (fun w1 hS1 => by obtain ⟨s1, s2⟩ := hS1; have z0 := s1.cellS (i := 0) (v := .slice Ak s.looks.length ck) rfl; have y0 := s2.cellS (i := 0) (v := .int .i64 dx) rfl; clear s1 s2; go_simp) ?_
      simp only [Act.put]
      refine wpTill_take 5 [13, 12, 11, 5] (v := .int .i64 i) rfl (by kernel_rfl) (by kernel_rfl) (by kernel_rfl) (by kernel_rfl) (by kernel_rfl) (by kernel_rfl) (fun _ _ _ h => h) hS0 (by rfl) (fun w1 hS1 => by obtain ⟨s1, s2⟩ := hS1; have z0 := s1.cellS (i := 0) (v := .slice Ak s.looks.length ck) rfl; have y0 := s2.cellS (i := 0) (v := .int .i64 dx) rfl; clear s1 s2; go_simp) ?_
      simp only [Act.put]
      refine wpTill_take 6 [13, 12, 11, 6] (v := .int .i64 f) rfl (by kernel_rfl) (by kernel_rfl) (by kernel_rfl) (by kernel_rfl) (by kernel_rfl) (by kernel_rfl) (fun _ _ _ h => h) hS0 (by rfl) (fun w1 hS1 => by obtain ⟨s1, s2⟩ := hS1; have z0 := s1.cellS (i := 0) (v := .slice Ak s.looks.length ck) rfl; have y0 := s2.cellS (i := 0) (v := .int .i64 dx) rfl; clear s1 s2; go_simp) ?_
      simp only [Act.put]
      refine wpTill_take 7 [13, 12, 11, 10, 9, 8, 7] (v := .pointer (some ⟨L.g dx, 0, none⟩)) rfl (by kernel_rfl) (by kernel_rfl) (by kernel_rfl) (by kernel_rfl) (by kernel_rfl) (by kernel_rfl) (fun _ _ _ h => h) hS0 (by rfl) (fun w1 hS1 => by obtain ⟨s1, s2⟩ := hS1; have z0 := s1.cellS (i := 0) (v := .slice Ak s.looks.length ck) rfl; have y0 := s2.cellS (i := 0) (v := .int .i64 dx) rfl; clear s1 s2; go_simp) ?_
      simp only [Act.put]
      refine wpTill_take 8 [13, 12, 11, 10, 9, 8] (v := .pointer (some ⟨L.g dx, 0, none⟩)) rfl (by kernel_rfl) (by kernel_rfl) (by kernel_rfl) (by kernel_rfl) (by kernel_rfl) (by kernel_rfl) (fun _ _ _ h => h) hS0 (by rfl) (fun w1 hS1 => by obtain ⟨s1, s2⟩ := hS1; have z0 := s1.cellS (i := 0) (v := .slice Ak s.looks.length ck) rfl; have y0 := s2.cellS (i := 0) (v := .int .i64 dx) rfl; clear s1 s2; go_simp) ?_
      simp only [Act.put]
      refine wpTill_take 9 [13, 12, 11, 10, 9] (v := .pointer (some ⟨L.g dx, 0, none⟩)) rfl (by kernel_rfl) (by kernel_rfl) (by kernel_rfl) (by kernel_rfl) (by kernel_rfl) (by kernel_rfl) (fun _ _ _ h => h) hS0 (by rfl) (fun w1 hS1 => by obtain ⟨s1, s2⟩ := hS1; have z0 := s1.cellS (i := 0) (v := .slice Ak s.looks.length ck) rfl; have y0 := s2.cellS (i := 0) (v := .int .i64 dx) rfl; clear s1 s2; go_simp) ?_
      simp only [Act.put]
      refine wpTill_take 10 [13, 12, 11, 10] (v := .int .i64 dx) rfl (by kernel_rfl) (by kernel_rfl) (by kernel_rfl) (by kernel_rfl) (by kernel_rfl) (by kernel_rfl) (fun _ _ _ h => h) hS0 (by rfl) (fun w1 hS1 => by obtain ⟨s1, s2⟩ := hS1; have z0 := s1.cellS (i := 0) (v := .slice Ak s.looks.length ck) rfl; have y0 := s2.cellS (i := 0) (v := .int .i64 dx) rfl; clear s1 s2; go_simp) ?_
      simp only [Act.put]
      have hOd : wr.drew.ownsRow lo 139 3 (.slice Ak s.looks.length ck) s.looks.length (cellsH s.looks) := hOw
      refine wpTill_one 11 rfl (by kernel_rfl) (fun K hK => ?_)
      have HK := Lib.hid hK
      clear hK
      go_simp
      refine HK.out _ _ (fun _ => ⟨hBo, hBe⟩) ?_
      clear HK K
      refine wpTill_one 12 rfl (by kernel_rfl) (fun K hK => ?_)
      have HK := Lib.hid hK
      clear hK
      go_simp
      refine HK.out _ _ (fun _ => ⟨hBo.alloc _, hBe.alloc _⟩) ?_
      clear HK K
      refine wpTill_one 13 rfl (by kernel_rfl) (fun K hK => ?_)
      have HK := Lib.hid hK
      clear hK
      refine step_app4 rfl (.tmp 48) (.tmp 56) _ rfl lo slt_look (n := s.looks.length) (xs := cellsH s.looks) (m := 1) (news := cellsH [⟨i, f, dx⟩]) rfl (own_alloc hOd _) rfl (rd_new' _ _ (cellsH [⟨i, f, dx⟩]) (by simp) rfl) (oneH _) (by omega) (by simp; omega) ?_
      intro v5 w5 hown5 hg5 hb5 hat5
      obtain ⟨A5, c5, rfl⟩ := own_slice hown5
      have q0 := (hBo.alloc (.cells (cellsH [⟨i, f, dx⟩]).toArray 139)).grown hg5 (fun j hj e => (unhide NS j hj).1 e.symm)
      have q1 := (hBe.alloc (.cells (cellsH [⟨i, f, dx⟩]).toArray 139)).grown hg5 (fun j hj e => (unhide NS j hj).2 e.symm)
      have kc := q0.cellS (i := 0) (v := .slice Ak s.looks.length ck) rfl
      have kf := q0.frozen 0
      refine HK.out _ _ (fun _ => ⟨q0, q1⟩) ?_
      clear HK K
      simp only [Act.put]
      refine wpTill_one 14 rfl (by kernel_rfl) (fun K hK => ?_)
      have HK := Lib.hid hK
      clear hK
      go_simp
      refine HK.out _ _ (fun _ => ⟨q0, q1⟩) ?_
      clear HK K
      refine wpTill_one 15 rfl (by kernel_rfl) (fun K hK => ?_)
      have HK := Lib.hid hK
      clear hK
      go_simp
      refine HK.out _ _ (fun _ => ⟨q0, q1⟩) ?_
      clear HK K
      refine wpTill_one 16 rfl (by kernel_rfl) (fun K hK => ?_)
      have HK := Lib.hid hK
      clear hK
      go_simp
      refine HK.out _ _ (fun h => absurd rfl h) ?_
      clear HK K
      refine wpTill_done (by kernel_rfl) (NoPanic.normal ?_) _
      have hd4 : Below w.heap.size w (wr.drew.alloc (.cells (cellsH [⟨i, f, dx⟩]).toArray 139)) := hbw.drew.alloc hz _
      have hbut : But w.heap.size tag (fun m => m = (0, 3) ∨ m = (0, 4)) w (w5.setCell ⟨lo, 0, none⟩ (.slice A5 (s.looks.length + 1) c5)) := ((But.below hd4 (Nat.le_refl _)).trans (But.grown hg5 hd4.size fun j hj _ => .inr (k5 j hj))).trans (But.set (fun _ => .inl k3) _)
      have e1 : cellsH s.looks ++ cellsH [⟨i, f, dx⟩] = cellsH (s.looks ++ [⟨i, f, dx⟩]) := by simp [cellsH]
      rw [e1] at hown5
      let tag' : Nat → Int × Nat := fun j => if j < w.heap.size then tag j else (0, 4)
      have ht : ∀ j, j < w.heap.size → tag' j = tag j := fun j hj => if_pos hj
      have hkl := (unhide HH).keep
      have hvM : ∀ j, (Value.slice A5 (s.looks.length + 1) c5).ownBlock = some j → tag' j = (0, 4) := fun j hj => by
        rcases hat5 with h | h
        · rw [h] at hj
          by_cases hlt2 : j < w.heap.size
          · rw [ht j hlt2]; exact k5 j hj
          · exact if_neg hlt2
        · rw [h] at hj
          injection hj with e
          exact if_neg (by simp at e; omega)
      have hfar : (w5.setCell ⟨lo, 0, none⟩ (.slice A5 (s.looks.length + 1) c5)).ownsRow lo 139 3 (.slice A5 (s.looks.length + 1) c5) (s.looks.length + 1) (cellsH (s.looks ++ [⟨i, f, dx⟩])) := own_butM (tag := fun j => ((j : Int), 0)) (S := fun m => m = ((lo : Int), 0)) hown5 (But.set (N := w5.heap.size) (tag := fun j => ((j : Int), 0)) (S := fun m => m = ((lo : Int), 0)) (p := ⟨lo, 0, none⟩) (fun _ => rfl) _) fun j hj e => by
        have h1 := hvM j hj
        have h2 : j = lo := by injection e; omega
        rw [h2, ht lo hlo, k3] at h1
        injection h1 with _ h1
        omega
      have hKH : KeepH (vT 96 139) lo (w5.setCell ⟨lo, 0, none⟩ (.slice A5 (s.looks.length + 1) c5)) tag' (s.looks ++ [⟨i, f, dx⟩]) (some (lo, .slice A5 (s.looks.length + 1) c5)) := ⟨q0.put 0 _, Nat.le_refl _, by rw [ht lo hlo]; exact k3, by rw [List.length_append]; exact hfar, hvM⟩
      have HLA := hide ((unhide HH).lookAdd hbut ht hKH)
      have HBT := hide hbut
      clear q0 q1 kc kf hg5 hb5 hat5 hown5 hOd hBo hBe hfar hKH hvM hbut
      go_wp2
      go_ret
      exact ⟨ret_int HV.out.symm, { L with kp := some (lo, .slice A5 (s.looks.length + 1) c5) }, tag', ⟨by rw [HLk.out]; exact unhide HLA, unhide HBT, ht, rfl, rfl, by show some lo = L.kp.map (·.1); rw [hkv]; rfl, rfl, rfl⟩⟩

/-! ### may. -/
set_option maxHeartbeats 400000 in
theorem indexFunc_look (A : Option Addr) (n cap : Nat) (h : List HOp) (F : FuncId) (caps : Array Value) (p : HOp → Bool) (w : World) (hr : Rd w w.heap.size 3 A n (cellsH h)) (hm : n ≤ 6000000000000)
    (hcall : ∀ (args : Array Value) (w : World), (callFunc F args).run Tryz.prog w = .ok (.enter F args) w)
    (hf : ∀ o ∈ h, ∀ w', Below w.heap.size w w' → Calls Tryz.prog F (#[o.val] ++ caps) w' fun e w'' => e = .returned (.bool (p o)) ∧ Below w'.heap.size w' w'') :
    Calls Tryz.prog 105 #[.slice A n cap, .func (.func F) #[] caps] w fun e w' => e = .returned (.int .i64 (idxGo p 0 h)) ∧ Below w.heap.size w w' := by
  have hl := hr.hlen
  have HL := Lib.hid hl
  have HF := Lib.hid hf
  clear hl hf
  go_enter Tryz.func105, Tryz.ntmps105
  go_wp2
  go_loopw [8] (fun i wr => ∃ k : Nat, k ≤ n ∧ i = .int .i64 k ∧ Hid (idxGo p 0 h = idxGo p k (h.drop k)) ∧ Below w.heap.size w wr) (fun i _ => n - (intOf i).toNat)
  case atStart => exact ⟨0, Nat.zero_le _, rfl, rfl, Below.refl _ _⟩
  case round =>
    obtain ⟨k, hk, rfl, HE, hbw⟩ := hrel
    by_cases hlt : k < n
    · obtain ⟨b, off, o, he, hb, ho, c0, c1, c2⟩ := (hr.below hbw).op (k := k) (by omega)
      cases he
      have HO := Lib.hid (drop_at ho)
      have hmem := Lib.hid (List.mem_of_getElem? ho)
      clear ho
      cases hP : p o
      · have HE2 : Hid (idxGo p 0 h = idxGo p (k + 1) (h.drop (k + 1))) := Lib.hid (by rw [HE.out, HO.out]; simp [idxGo, hP])
        go_wp2_with fail
        refine (HF.out o hmem.out wr hbw).mono ?_
        rintro e w1 ⟨rfl, hb1⟩
        rw [hP]
        go_wp2
        go_roundw
        case rel => exact ⟨k + 1, by omega, by go_num, HE2, hbw.trans (hb1.mono hbw.size)⟩
        case measure => simp [intOf]; omega
      · have HE2 : Hid (idxGo p 0 h = k) := Lib.hid (by rw [HE.out, HO.out]; simp [idxGo, hP])
        go_wp2_with fail
        refine (HF.out o hmem.out wr hbw).mono ?_
        rintro e w1 ⟨rfl, hb1⟩
        rw [hP]
        go_wp2
        go_ret
        exact ⟨ret_int HE2.out.symm, hbw.trans (hb1.mono hbw.size)⟩
    · have HE2 : Hid (idxGo p 0 h = -1) := Lib.hid (by rw [HE.out, drop_end (by rw [HL.out]; omega)]; rfl)
      go_wp2
      go_ret
      exact ⟨ret_int HE2.out.symm, hbw⟩
theorem containsFunc_look (A : Option Addr) (n cap : Nat) (h : List HOp) (F : FuncId) (caps : Array Value) (p : HOp → Bool) (w : World) (hr : Rd w w.heap.size 3 A n (cellsH h)) (hm : n ≤ 6000000000000)
    (hcall : ∀ (args : Array Value) (w : World), (callFunc F args).run Tryz.prog w = .ok (.enter F args) w)
    (hf : ∀ o ∈ h, ∀ w', Below w.heap.size w w' → Calls Tryz.prog F (#[o.val] ++ caps) w' fun e w'' => e = .returned (.bool (p o)) ∧ Below w'.heap.size w' w'') :
    Calls Tryz.prog 74 #[.slice A n cap, .func (.func F) #[] caps] w fun e w' => e = .returned (.bool (h.any p)) ∧ Below w.heap.size w w' := by
  have C := indexFunc_look A n cap h F caps p w hr hm hcall hf
  have HA := Lib.hid (idxGo_any p h)
  generalize idxGo p 0 h = v at *
  have HC := hide C
  clear C hf hcall
  go_enter Tryz.func74, Tryz.ntmps74
  go_wp2_with fail
  refine (unhide HC).mono ?_
  rintro e w1 ⟨rfl, hb1⟩
  go_wp2
  go_ret
  exact ⟨ret_bool HA.out, hb1⟩
theorem call_verMay (args : Array Value) (w : World) : (callFunc 45 args).run Tryz.prog w = .ok (.enter 45 args) w := by kernel_rfl
theorem call_verMay1 (args : Array Value) (w : World) : (callFunc 75 args).run Tryz.prog w = .ok (.enter 75 args) w := by kernel_rfl
set_option maxHeartbeats 2000000 in
theorem verMay1_any (gb gd : Nat) (tx c1 c2 : Int) (c3 c5 : Value) (A : Option Addr) (n c : Nat) (l : List Int) (q : HOp) (w : World) (h2 : Blk w gb 84 [.pointer (some ⟨gd, 0, none⟩)]) (hd : Blk w gd 88 [.int .i64 tx, .int .i64 c1, .int .i64 c2, c3, .slice A n c, c5]) (hr : Rd w w.heap.size 1 A n (cellsI l)) (hn : n ≤ 1000000) :
    Calls Tryz.prog 75 #[q.val, .pointer (some ⟨gb, 0, none⟩)] w fun e w' => e = .returned (.bool (decide (q.tx ∈ l) && decide (q.item > tx) && decide (q.what < tx))) ∧ Below w.heap.size w w' := by
  obtain ⟨a, b, d⟩ := q
  have e2 := (h2.alloc (.cells #[.int .i64 a, .int .i64 b, .int .i64 d] 139)).cellS (i := 0) (v := .pointer (some ⟨gd, 0, none⟩)) rfl
  have hd1 := hd.alloc (.cells #[.int .i64 a, .int .i64 b, .int .i64 d] 139)
  have e3 := hd1.cellS (i := 0) (v := .int .i64 tx) rfl
  have e4 := hd1.cellS (i := 4) (v := .slice A n c) rfl
  have hN := Blk.new w 139 [.int .i64 a, .int .i64 b, .int .i64 d]
  have n0 := hN.cellS (i := 0) (v := .int .i64 a) rfl
  have n1 := hN.cellS (i := 1) (v := .int .i64 b) rfl
  have n2 := hN.cellS (i := 2) (v := .int .i64 d) rfl
  have hb0 : Below w.heap.size w (w.alloc (.cells #[.int .i64 a, .int .i64 b, .int .i64 d] 139)) := (Below.refl _ _).alloc (Nat.le_refl _) _
  have hr1 := (hr.below hb0).more hb0.size
  have CI := hide (fun m => (icontains_rd A n c l a ((w.alloc (.cells #[.int .i64 a, .int .i64 b, .int .i64 d] 139)).drewN m) _ (show Rd ((w.alloc (.cells #[.int .i64 a, .int .i64 b, .int .i64 d] 139)).drewN m) _ 1 _ _ _ from hr1) (by omega)).mono fun _ _ ⟨a1, a2⟩ => (And.intro a1 a2.symm))
  show Calls _ _ _ _ fun e w' => e = .returned (.bool (decide (a ∈ l) && decide (d > tx) && decide (b < tx))) ∧ _
  obtain ⟨p, hp⟩ : ∃ p : Bool, decide (a ∈ l) = p := ⟨_, rfl⟩
  obtain ⟨r, hr2⟩ : ∃ r : Bool, decide (tx < d) = r := ⟨_, rfl⟩
  obtain ⟨s, hs⟩ : ∃ s : Bool, decide (b < tx) = s := ⟨_, rfl⟩
  rw [hp] at CI
  have HV : Hid ((decide (a ∈ l) && decide (d > tx) && decide (b < tx)) = (p && r && s)) := Lib.hid (by rw [hp, hs, ← hr2])
  rw [HV.out]
  clear h2 hd hd1 hN hr hr1 hp HV
  unfold HOp.val
  cases p
  · go_enter Tryz.func75, Tryz.ntmps75
    go_wp2
    go_quiet ((go_at_call 65; exact Calls.quiet_of_same (unhide CI _)))
    go_wp2
    go_ret
    exact ⟨by simp, below_drewN hb0 _⟩
  · cases r
    · go_enter Tryz.func75, Tryz.ntmps75
      go_wp2
      go_quiet ((go_at_call 65; exact Calls.quiet_of_same (unhide CI _)))
      go_wp2
      go_ret
      exact ⟨by simp, below_drewN hb0 _⟩
    · cases s
      all_goals
        go_enter Tryz.func75, Tryz.ntmps75
        go_wp2
        go_quiet ((go_at_call 65; exact Calls.quiet_of_same (unhide CI _)))
        go_wp2
        go_ret
        exact ⟨by simp, below_drewN hb0 _⟩
set_option maxHeartbeats 2000000 in
theorem verMay_any {lo : Nat} {s : VSt} {L : VLay} {tag : Nat → Int × Nat} {k0 : Nat} (w : World) (H : VHeap (vT 96 139) lo w s L tag) (hk : VOk k0 s) (hk0 : k0 ≤ 41) {d : Dl} (hd : d ∈ s.ds) (v2 : Value) (hkp : L.kp.map (·.1) = some lo) :
    Calls Tryz.prog 45 #[.pointer (some ⟨lo, 0, none⟩), .pointer (some ⟨L.g d.tx, 0, none⟩), v2] w fun e w' => e = .returned (.bool (verR.may s d)) ∧ Below w.heap.size w w' := by
  obtain ⟨kv, hkv⟩ : ∃ v, L.kp = some (lo, v) := by
    cases hl : L.kp with
    | none => rw [hl] at hkp; cases hkp
    | some p =>
      rw [hl] at hkp
      exact ⟨p.2, by rw [← Option.some.inj hkp]⟩
  have hK := H.keep
  rw [hkv] at hK
  obtain ⟨k1, _, k3, k4, k5⟩ := hK
  obtain ⟨Ak, ck, rfl⟩ := own_slice k4
  have hlk : s.looks.length ≤ 41 := by have := hk.looks; omega
  have hD := H.deals d hd
  obtain ⟨Aw, cw, hvw⟩ := own_slice hD.wrote
  have hB := hD.blk
  have hw := hD.wrote
  rw [hvw] at hB hw
  have hwl := (hk.deals d hd).wrote
  have hb1 : Below w.heap.size w (w.alloc (.cells #[.pointer (some ⟨L.g d.tx, 0, none⟩)] 84)) := (Below.refl _ _).alloc (Nat.le_refl _) _
  have g0 := Blk.new w 84 [.pointer (some ⟨L.g d.tx, 0, none⟩)]
  have hB1 := hB.alloc (.cells #[.pointer (some ⟨L.g d.tx, 0, none⟩)] 84)
  have hw1 := own_alloc hw (.cells #[.pointer (some ⟨L.g d.tx, 0, none⟩)] 84)
  have hk1 := k1.alloc (.cells #[.pointer (some ⟨L.g d.tx, 0, none⟩)] 84)
  have e0 := hk1.cellS (i := 0) (v := .slice Ak s.looks.length ck) rfl
  have C := hide (containsFunc_look Ak s.looks.length ck s.looks 75 #[.pointer (some ⟨w.heap.size, 0, none⟩)] (fun q => decide (q.tx ∈ d.wrote) && decide (q.item > d.tx) && decide (q.what < d.tx)) _ (rd_own (own_alloc k4 (.cells #[.pointer (some ⟨L.g d.tx, 0, none⟩)] 84))) (by omega) call_verMay1 (fun q _ w' hb => verMay1_any w.heap.size (L.g d.tx) d.tx d.began d.ended (L.vs d.tx) (L.vp d.tx) Aw d.wrote.length cw d.wrote q w' (g0.below hb g0.lt) (hB1.below hb hB1.lt) (((rd_own hw1).below hb).more hb.size) (by omega)))
  have HR : Hid (verR.may s d = !s.looks.any fun q => decide (q.tx ∈ d.wrote) && decide (q.item > d.tx) && decide (q.what < d.tx)) := Lib.hid rfl
  generalize verR.may s d = R at *
  generalize (s.looks.any fun q => decide (q.tx ∈ d.wrote) && decide (q.item > d.tx) && decide (q.what < d.tx)) = q at *
  generalize L.g d.tx = g at *
  clear hD hw hw1 hB hB1 g0 H hk hvw hd hwl k1 k4 k5 hk1 hkv hkp
  go_enter Tryz.func45, Tryz.ntmps45
  go_wp2_with fail
  refine (unhide C).mono ?_
  rintro e w2 ⟨rfl, hb2⟩
  go_wp2
  go_ret
  exact ⟨ret_bool HR.out.symm, hb1.trans (hb2.mono hb1.size)⟩
end Go.Proofs.YtmehghkpghbpjaaGreat


namespace Go.Proofs.YtmehghkpghbpjaaGreat
open Go.RowKit Go.Sort Go.Shelf

set_option maxHeartbeats 1000000 in
theorem verCmp_any (ga gb : Nat) (xa xb : Int) (W : World) (ha : W.cell? ⟨ga, 0, none⟩ = some (.int .i64 xa)) (hb : W.cell? ⟨gb, 0, none⟩ = some (.int .i64 xb)) :
    Calls Tryz.prog 47 #[.pointer (some ⟨ga, 0, none⟩), .pointer (some ⟨gb, 0, none⟩)] W fun e w' => e = .returned (.int .i64 (cmpI xa xb)) ∧ ∃ m, w' = W.drewN m := by
  have C := hide (fun m => compare_any xa xb (W.drewN m))
  generalize cmpI xa xb = R at *
  go_enter Tryz.func47, Tryz.ntmps47
  go_wp2
  go_quiet ((go_at_call 48; exact Calls.quiet_of_same (unhide C _)))
  go_wp2
  go_ret
  exact ⟨rfl, _, rfl⟩
theorem call_verCmp (args : Array Value) (w : World) : (callFunc 47 args).run Tryz.prog w = .ok (.enter 47 args) w := by kernel_rfl

theorem putRow_mapA {α : Type} [Inhabited α] (enc : α → Value) (w : World) (blk off : Nat) (d : Array α) : putRow enc w blk off d = putRow id w blk off (d.map enc) := by
  unfold putRow
  congr 1
  funext c
  unfold putCells
  refine Array.ext (by simp) fun i h1 h2 => ?_
  simp only [Array.getElem_mapIdx, Array.size_map]
  by_cases hi : off ≤ i ∧ i < off + d.size
  · have : i - off < d.size := by omega
    simp [hi, this]
  · simp [hi]
theorem holds_mapA {α : Type} [Inhabited α] {enc : α → Value} {w : World} {blk off : Nat} {d : Array α} (h : Holds id w blk off (d.map enc)) : Holds enc w blk off d := fun j hj => by
  have := h j (by simpa using hj)
  simpa [Array.getElem!_eq_getD, Array.getD, hj] using this
theorem cmpI_lt (x y : Int) : ltOf cmpI x y = decide (x < y) := by
  unfold ltOf cmpI
  by_cases h : x < y
  · rw [if_pos h, decide_eq_true h]; rfl
  · rw [if_neg h, decide_eq_false h]
    split <;> rfl
theorem swoV {ts : List Int} : SWO (ltOf fun (x y : {t // t ∈ ts}) => cmpI x.1 y.1) where
  irrefl x := by
    show ltOf cmpI x.1 x.1 = false
    rw [cmpI_lt]; simp
  trans x y z h1 h2 := by
    change ltOf cmpI x.1 y.1 = true at h1
    change ltOf cmpI y.1 z.1 = true at h2
    show ltOf cmpI x.1 z.1 = true
    rw [cmpI_lt, decide_eq_true_eq] at *; omega
  ntrans x y z h1 h2 := by
    change ltOf cmpI x.1 y.1 = false at h1
    change ltOf cmpI y.1 z.1 = false at h2
    show ltOf cmpI x.1 z.1 = false
    rw [cmpI_lt, decide_eq_false_iff_not] at *; omega
/-- slices.SortFunc at deals, by their numbers. -/
theorem dsort_own {w : World} {base n c : Nat} {A : Option Addr} {L : VLay} {ts : List Int} (h : w.ownsRow base 84 1 (.slice A n c) n (ts.map (ptrD L))) (hb : base ≤ w.heap.size) (hn : n ≤ 1000) (hc : ∀ t ∈ ts, w.cell? ⟨L.g t, 0, none⟩ = some (.int .i64 t) ∧ (∀ j, (Value.slice A n c).ownBlock = some j → L.g t ≠ j) ∧ L.g t < w.heap.size) :
    Calls Tryz.prog 46 #[.slice A n c, .func (.func 47) #[] #[]] w fun e w' => e = .returned (.tuple #[]) ∧ ∃ ts' : List Int, ts'.Perm ts ∧ ts'.Pairwise (fun x y => ¬ y < x) ∧ w'.ownsRow base 84 1 (.slice A n c) n (ts'.map (ptrD L)) ∧ w.grownBy w' (Value.ownBlock (.slice A n c)) ∧ Below base w w' := by
  have hl : ts.length = n := by have := h.1; simpa using this
  rcases Nat.eq_zero_or_pos n with h0 | h0
  · subst h0
    obtain rfl : ts = [] := List.eq_nil_of_length_eq_zero hl
    refine Calls.mono (AnyF.slices_SortFunc_none { Tryz.lSortD with } A c (.func (.func 47) #[] #[]) w) ?_
    rintro e w' ⟨rfl, rfl⟩
    exact ⟨rfl, [], List.Perm.refl _, List.Pairwise.nil, h, ⟨rfl, rfl, rfl, Nat.le_refl _, fun _ _ _ => rfl⟩, Below.refl _ _⟩
  · obtain ⟨g, rfl, hg1, hg2⟩ := own_addr h h0
    haveI : Inhabited {t // t ∈ ts} := ⟨⟨ts[0]'(by omega), List.getElem_mem _⟩⟩
    have hd : (ts.attach.toArray).size = n := by simpa using hl
    have hmap : ∀ d : Array {t // t ∈ ts}, d.map (fun x => ptrD L x.1) = (d.toList.map fun x => ptrD L x.1).toArray := fun d => by
      apply Array.ext' ; simp
    have hH : Holds (fun x : {t // t ∈ ts} => ptrD L x.1) w g 0 ts.attach.toArray := by
      refine holds_mapA ?_
      rw [hmap]
      have e : (ts.attach.toArray.toList.map fun x => ptrD L x.1) = ts.map (ptrD L) := by
        simp
      rw [e]
      exact holds_own h
    have hcon := Any.slices_SortFunc Tryz.lSortD (fun x : {t // t ∈ ts} => ptrD L x.1) (fun _ => rfl) (fun x y => cmpI x.1 y.1) swoV 47 #[] g 0 c ts.attach.toArray w call_verCmp (fun m os dk hdk x y => by
      have hgr := sorted_grown w g (dk.map fun x => ptrD L x.1) m os
      have hcell : ∀ z : {t // t ∈ ts}, (sortWorld (fun x : {t // t ∈ ts} => ptrD L x.1) w g 0 m dk os).cell? ⟨L.g z.1, 0, none⟩ = some (.int .i64 z.1) := fun z => by
        obtain ⟨z1, z2, z3⟩ := hc z.1 z.2
        unfold sortWorld
        rw [putRow_mapA]
        have hb2 := hgr.block (L.g z.1) z3 (fun e => z2 g rfl (by injection e))
        unfold World.cell? at z1 ⊢
        simp only at z1 ⊢
        rw [hb2]; exact z1
      refine (verCmp_any (L.g x.1) (L.g y.1) x.1 y.1 _ (hcell x) (hcell y)).mono ?_
      rintro e w' ⟨rfl, q, rfl⟩
      exact ⟨rfl, q, #[], by rw [grow_empty]⟩) hH hg2 (by omega)
    rw [hd] at hcon
    refine Calls.mono hcon ?_
    rintro e w' ⟨rfl, d', m, os, hp, hs, rfl⟩
    obtain ⟨p1, p2, p3⟩ := hp
    have hsz : d'.size = n := by rw [p1, hd]
    have e1 : (d'.extract 0 n).toList = d'.toList := by rw [← hsz]; simp
    have e2 : (ts.attach.toArray.extract 0 n).toList = ts.attach := by
      have : ts.attach.toArray.extract 0 n = ts.attach.toArray := by rw [← hd]; exact Array.extract_size
      rw [this]
    rw [e1, e2] at p3
    have e3 : (d'.toList.map fun x => ptrD L x.1) = (d'.toList.map (·.1)).map (ptrD L) := by rw [List.map_map]; rfl
    refine ⟨rfl, d'.toList.map (·.1), ?_, ?_, ?_, ?_, ?_⟩
    · have := p3.map (fun x : {t // t ∈ ts} => x.1)
      have e4 : ts.attach.map (fun x : {t // t ∈ ts} => x.1) = ts := by simp
      rwa [e4] at this
    · rw [List.pairwise_map, List.pairwise_iff_getElem]
      intro i j hi hj hij
      have h1 := hs i j (Nat.zero_le _) hij (by rw [← hsz]; simpa using hj)
      have hi' : i < d'.size := by simpa using hi
      have hj' : j < d'.size := by simpa using hj
      rw [getElem!_pos d' i hi', getElem!_pos d' j hj'] at h1
      change ltOf cmpI d'[j].1 d'[i].1 = false at h1
      rw [cmpI_lt, decide_eq_false_iff_not] at h1
      simpa using h1
    · unfold sortWorld
      rw [putRow_mapA]
      have k1 := own_sorted h (d'.map fun x => ptrD L x.1) (by simp [hsz]) m os
      rw [hmap] at k1 ⊢
      rw [e3] at k1 ⊢
      simpa using k1
    · unfold sortWorld
      rw [putRow_mapA]
      exact sorted_grown w g _ m os
    · unfold sortWorld
      rw [putRow_mapA]
      exact (Below.refl _ _).grown (sorted_grown w g _ m os) hb (fun k hk => by cases hk; exact hg1)
/-- Who is done, in another order. -/
theorem VHeap.doneSort {T : VTy} {lo : Nat} {w w' : World} {s : VSt} {L : VLay} {tag : Nat → Int × Nat} (H : VHeap T lo w s L tag) {ts : List Int} (hb : But w.heap.size tag (fun m => m = (0, 2)) w w') (hd : w'.ownsRow lo T.ptr 1 L.vd ts.length (ts.map (ptrD L))) (hs : ∀ t ∈ ts, t ∈ s.dn) : VHeap T lo w' { s with dn := ts } L tag :=
  ⟨H.map.but hb (by rw [H.mapM]; decide), H.mapM, H.mapL, H.last.but hb (by rw [H.lastM]; decide), H.lastM, H.lastL, hd, H.doneM, fun e he => (H.deals e he).but hb (fun j hj hS => by injection hS with _ e2; omega) (fun _ _ => rfl) rfl rfl rfl rfl, H.nodup, fun t ht => H.sub t (hs t ht), H.keep.but hb (by decide) (by decide) fun _ _ => rfl⟩
end Go.Proofs.YtmehghkpghbpjaaGreat


namespace Go.Proofs.YtmehghkpghbpjaaGreat
open Go.RowKit

set_option maxRecDepth 100000 in
set_option maxHeartbeats 4000000 in
theorem ver_run (A : Option Addr) (n c : Nat) (h : List HOp) (w : World) (hr : Rd w w.heap.size 3 A n (cellsH h)) (hm : n ≤ 6000000000000) (hok : okH h) :
    Calls Tryz.prog 17 #[.slice A n c] w fun e w' => ∃ ts, ByNum (playV verR h) ts ∧ OutC w w' e ts (seenOf { playV verR h with dn := ts }) (lastOf (ts.map (dgd (playV verR h)))) := by
  have CR := hide (fun w1 (hb : Below w.heap.size w w1) => right_h A n c h w1 ((hr.below hb).more hb.size) hm)
  rw [show (checkF h).2 = 0 from hok] at CR
  have hlen := okH_len hok
  have hn : n ≤ 40 := by rw [← hr.hlen]; exact hlen
  have CP := hide (fun w1 (hb : Below w.heap.size w w1) => vplay_any (tk := 96) (tl := 139) A n c h verR (fun s d i => by show (s.looks ++ [_]).length ≤ _; simp) 44 45 #[.pointer (some ⟨w1.heap.size, 0, none⟩)] #[] #[.pointer (some ⟨w1.heap.size, 0, none⟩)] #[] w1 (w1.alloc (.cells #[.slice none 0 0] 96)) (some (w1.heap.size, .slice none 0 0)) (.inr ⟨by decide, rfl, Blk.new w1 96 [.slice none 0 0]⟩) ((Below.refl _ _).alloc (Nat.le_refl _) _) ((hr.below hb).more hb.size) hn (okH_right hok) call_verSee call_verMay
    (fun s L tag w2 d i H hk hd h1 h2 hkp => (verSee_any w2 H hk (by omega) hd i _ hkp).mono fun e w' ⟨he, h⟩ => ⟨he, h⟩)
    (fun s L tag w2 d H hk hd hkp => (verMay_any w2 H hk (by omega) hd _ hkp).mono fun e w' ⟨he, hb⟩ => ⟨he, hb⟩))
  have HZ := hide (fun w1 (hb : Below (w.heap.size + 1) (w.alloc (.cells #[.slice none 0 0, .slice none 0 0, .slice none 0 0] 40)) w1) => (Blk.new w 40 [.slice none 0 0, .slice none 0 0, .slice none 0 0]).below hb (Nat.lt_succ_self _))
  have hb0 : Below w.heap.size w (w.alloc (.cells #[.slice none 0 0, .slice none 0 0, .slice none 0 0] 40)) := (Below.refl _ _).alloc (Nat.le_refl _) _
  have HB0 := hide hb0
  have hz0 : (w.alloc (.cells #[.slice none 0 0, .slice none 0 0, .slice none 0 0] 40)).heap.size = w.heap.size + 1 := by simp
  generalize playV verR h = s at *
  have hmk := make6
  clear hr hok hb0 hlen
  go_enter Tryz.func17, Tryz.ntmps17
  go_wp2_with fail
  refine (unhide CR _ (unhide HB0)).mono ?_
  rintro e w1 ⟨rfl, hb1⟩
  have hbw1 := (unhide HB0).trans (hb1.mono (unhide HB0).size)
  have hz1 := hb1.size
  have hbz1 : Below (w.heap.size + 1) (w.alloc (.cells #[.slice none 0 0, .slice none 0 0, .slice none 0 0] 40)) w1 := hb1.mono (by omega)
  rw [errV_zero]
  go_wp2_with fail
  refine (unhide CP w1 hbw1).mono ?_
  rintro e w2 ⟨L, tag, rfl, hP2, hk2⟩
  have hb2 := hP2.below
  have hz2 := hb2.size
  have hbw2 := hbw1.trans (hb2.mono hbw1.size)
  have hbz2 := hbz1.trans (hb2.mono (by omega))
  have H2 := hP2.heap
  have hdl := hk2.dn
  obtain ⟨Ad, cd, hvd⟩ := own_slice H2.done
  have hdone := H2.done
  have hdM := H2.doneM
  rw [hvd] at hdone hdM
  have CSo := hide (dsort_own (w := w2) (base := w1.heap.size) hdone hb2.size (by omega) (fun t ht => by
    obtain ⟨d, hd, rfl⟩ := List.mem_map.1 (H2.sub t ht)
    have hD := H2.deals d hd
    refine ⟨hD.blk.cellS rfl, fun j hj e => ?_, hD.blk.lt⟩
    have := hdM j hj
    rw [← e, hD.blkM] at this
    injection this with _ e2
    omega))
  have HH := hide H2
  have HK := Lib.hid hk2
  have HVD := Lib.hid hvd
  rw [hvd]
  clear CR CP hP2 hk2 H2 hvd hdone
  go_wp2_with fail
  refine (unhide CSo).mono ?_
  rintro e w3 ⟨rfl, ts, hpm, hup, ho3, hg3, hb3⟩
  have hbw3 := hbw2.trans (hb3.mono hbw1.size)
  have hbz3 := hbz2.trans (hb3.mono (by omega))
  have H3 := (unhide HH).doneSort (But.grown hg3 (Nat.le_refl _) fun j hj _ => hdM j hj) (by rw [HVD.out, hpm.length_eq]; exact ho3) (fun t ht => hpm.mem_iff.1 ht)
  have hk3 : VOk n { s with dn := ts } := ⟨by show ts.length ≤ n; rw [hpm.length_eq]; exact HK.out.dn, HK.out.last, HK.out.looks, HK.out.deals⟩
  have HDn := hide (fun w' (hb : Below w3.heap.size w3 w') => (show Rd w' w3.heap.size 1 Ad s.dn.length (ts.map (ptrD L)) from (rd_own ho3).below hb))
  have HDl := hide (fun t (ht : t ∈ ts) => (show ∃ Aw cw, (∀ w', Below w3.heap.size w3 w' → Blk w' (L.g t) 88 [.int .i64 t, .int .i64 (dgd s t).began, .int .i64 (dgd s t).ended, L.vs t, .slice Aw (dgd s t).wrote.length cw, L.vp t] ∧ Rd w' w3.heap.size 1 Aw (dgd s t).wrote.length (cellsI (dgd s t).wrote)) ∧ (dgd s t).tx = t ∧ (dgd s t).wrote.length ≤ 41 ∧ (∀ i ∈ (dgd s t).wrote, 1 ≤ i ∧ i ≤ 6) from by
    obtain ⟨e, he, rfl⟩ := List.mem_map.1 (H3.sub t ht)
    have hg : dgd s e.tx = e := by unfold dgd; rw [dget_mem H3.nodup he]; rfl
    rw [hg]
    have hD := H3.deals e he
    obtain ⟨Aw, cw, hvw⟩ := own_slice hD.wrote
    have h1 := hD.blk
    have h2 := hD.wrote
    rw [hvw] at h1 h2
    exact ⟨Aw, cw, fun w' hb => ⟨h1.below hb h1.lt, (rd_own h2).below hb⟩, rfl, by have := (hk3.deals e he).wrote; omega, (hk3.deals e he).items⟩))
  have HH3 := hide H3
  have HK3 := Lib.hid hk3
  have HPM := Lib.hid hpm
  have HUP := Lib.hid hup
  have hlt' : ts.length = s.dn.length := hpm.length_eq
  clear CSo H3 hk3 ho3 hg3 hb3 hdM hpm hup HH
  have hB8 := Blk.new w3 3 (cellsI [0, 0, 0, 0, 0, 0])
  have hb8 : Below w3.heap.size w3 (w3.alloc (.cells #[.int .i64 0, .int .i64 0, .int .i64 0, .int .i64 0, .int .i64 0, .int .i64 0] 3)) := (Below.refl _ _).alloc (Nat.le_refl _) _
  go_wp2
  clear hmk
  go_loopw [36] (fun s36 wr => ∃ (k : Nat) (la : List Int), k ≤ s.dn.length ∧ s36 = .int .i64 k ∧ la.length = 6 ∧ Blk wr w3.heap.size 3 (cellsI la) ∧ Hid (lastOf (ts.map (dgd s)) = ((ts.map (dgd s)).drop k).foldl (fun la d => setsL d.tx d.wrote la) la) ∧ Below w3.heap.size w3 wr) (fun s36 _ => s.dn.length - (intOf s36).toNat)
  case atStart => exact ⟨0, [0, 0, 0, 0, 0, 0], Nat.zero_le _, rfl, rfl, hB8, Lib.hid rfl, hb8⟩
  case round =>
    clear hB8 hb8
    obtain ⟨k, la, hk, rfl, hla, hB, HLA, hbw⟩ := hrel
    obtain ⟨wo, rfl⟩ : ∃ wo : World, wo = wr := ⟨_, rfl⟩
    have hl8 := hB.lt
    by_cases hlt : k < s.dn.length
    · obtain ⟨b, off, t, he, hb, ht, c0⟩ := (unhide HDn wo hbw).ptr (k := k) hlt
      cases he
      have htm := List.mem_of_getElem? ht
      have hDk : (ts.map (dgd s))[k]? = some (dgd s t) := by rw [List.getElem?_map, ht]; rfl
      obtain ⟨Aw, cw, hfam, htx, hwl, hit⟩ := unhide HDl t htm
      have HFM := hide hfam
      have hBt := (hfam wo hbw).1
      have HLB : Hid (lastOf (ts.map (dgd s)) = ((ts.map (dgd s)).drop (k + 1)).foldl (fun la d => setsL d.tx d.wrote la) (setsL t (dgd s t).wrote la)) := Lib.hid (by rw [HLA.out, drop_at hDk, List.foldl_cons, htx])
      have HTM := Lib.hid htm
      have e4 := hBt.cellS (i := 4) (v := .slice Aw _ cw) rfl
      clear ht htm hDk hBt hfam
      go_wp2
      go_loopw [45] (fun s45 wr => ∃ (j : Nat) (lb : List Int), j ≤ (dgd s t).wrote.length ∧ s45 = .int .i64 j ∧ lb.length = 6 ∧ Blk wr w3.heap.size 3 (cellsI lb) ∧ Hid (setsL t (dgd s t).wrote la = setsL t ((dgd s t).wrote.drop j) lb) ∧ Below w3.heap.size w3 wr) (fun s45 _ => (dgd s t).wrote.length - (intOf s45).toNat)
      case atStart => exact ⟨0, la, Nat.zero_le _, rfl, hla, hB, Lib.hid rfl, hbw⟩
      case round =>
        clear hB hbw e4
        obtain ⟨j, lb, hj, rfl, hlb, hB, HLJ, hbw⟩ := hrel
        by_cases hlt2 : j < (dgd s t).wrote.length
        · obtain ⟨hBt, hrw⟩ := unhide HFM wr hbw
          have y0 := hBt.cellS (i := 0) (v := .int .i64 t) rfl
          obtain ⟨b4, off4, i, he4, hb4, hi4, c4⟩ := hrw.int (k := j) hlt2
          cases he4
          have hii := hit i (List.mem_of_getElem? hi4)
          obtain ⟨jj, hjj⟩ : ∃ jj : Nat, i.toNat - 1 = jj := ⟨_, rfl⟩
          have i1 : IntKind.i64.wrap (i - 1) = (jj : Int) := by
            rw [show i - 1 = (jj : Int) by omega]; exact IntWalk.i64_in _ (by omega)
          have i2 : (0 : Int) ≤ (jj : Int) := by omega
          have i3 : (jj : Int) < 6 := by omega
          have i4 : (jj : Int) < ((6 : Nat) : Int) := by omega
          have fz := hB.frozen jj
          have fc := hB.cellS (i := jj) (v := .int .i64 lb[jj]) (by unfold cellsI; rw [List.getElem?_map, List.getElem?_eq_getElem (by omega)]; rfl)
          have hB' := hB.put jj (.int .i64 t)
          have e8 : (cellsI lb).set jj (.int .i64 t) = cellsI (lb.set jj t) := by unfold cellsI; rw [List.map_set]
          rw [e8] at hB'
          have HLJ2 : Hid (setsL t (dgd s t).wrote la = setsL t ((dgd s t).wrote.drop (j + 1)) (lb.set jj t)) := Lib.hid (by rw [HLJ.out, drop_at hi4, setsL, hjj])
          have hlb2 : (lb.set jj t).length = 6 := by rw [List.length_set]; exact hlb
          have hbw' := hbw.setCell (p := ⟨w3.heap.size, jj, none⟩) (Nat.le_refl _) (.int .i64 t)
          clear hrw hBt HLJ
          go_wp2
          go_roundw
          case rel => exact ⟨j + 1, _, by omega, by go_num, hlb2, hB', HLJ2, hbw'⟩
          case measure => simp [intOf]; omega
        · have HLC : Hid (lastOf (ts.map (dgd s)) = ((ts.map (dgd s)).drop (k + 1)).foldl (fun la d => setsL d.tx d.wrote la) lb) := Lib.hid (by rw [HLB.out, HLJ.out, drop_end (by omega)]; rfl)
          go_wp2
          go_roundw
          case rel => exact ⟨k + 1, lb, by omega, by go_num, hlb, hB, HLC, hbw⟩
          case measure => simp [intOf]; omega
    · have HLF : Hid (lastOf (ts.map (dgd s)) = la) := Lib.hid (by rw [HLA.out, drop_end (by rw [List.length_map]; omega)]; rfl)
      have hbw5 := hbw3.trans (hbw.mono hbw3.size)
      have hzA0 := hbz3.size
      have hbz5 := hbz3.trans (hbw.mono (by omega))
      have H5 := (unhide HH3).below hbw
      have CO := hide (out_any wo H5 HK3.out (by omega) (some ⟨w3.heap.size, 0, none⟩) 6 6)
      have hvd2 := HVD.out
      rw [show ({ s with dn := ts } : VSt).dn.length = ts.length from rfl] at CO
      have HLT := hide hlt'
      clear hlt'
      rw [hvd2] at CO
      have hlB := hB
      have hzA := hbz3.size
      have hzB := hbw.size
      have hzC := hbz5.size
      clear H5 HLA
      go_wp2_with fail
      refine (unhide CO).mono ?_
      rintro e w6 ⟨v1, v2, rfl, ho1, ho2, _, hb6⟩
      (change w6.ownsRow _ _ _ v1 ts.length (cellsI ts) at ho1)
      have hz6 := hb6.size
      have hbw6 := hbw5.trans (hb6.mono hbw5.size)
      have hB4 := unhide HZ w6 (hbz5.trans (hb6.mono (by omega)))
      have hl6b := hlB.below hb6 hlB.lt
      obtain ⟨A1, c1, rfl⟩ := own_slice ho1
      obtain ⟨A2, c2, rfl⟩ := own_slice ho2
      have x0 := hB4.cellS (i := 0) (v := .slice none 0 0) rfl
      have x1 := hB4.cellS (i := 1) (v := .slice none 0 0) rfl
      have x2 := hB4.cellS (i := 2) (v := .slice none 0 0) rfl
      have f0 := hB4.frozen 0
      have f1 := hB4.frozen 1
      have f2 := hB4.frozen 2
      have hR := ((hB4.put 0 (.slice A1 ts.length c1)).put 1 (.slice A2 (seenOf { s with dn := ts }).length c2)).put 2 (.slice (some ⟨w3.heap.size, 0, none⟩) 6 6)
      have r0 := hR.cellS (i := 0) (v := .slice A1 ts.length c1) rfl
      have r1 := hR.cellS (i := 1) (v := .slice A2 (seenOf { s with dn := ts }).length c2) rfl
      have r2 := hR.cellS (i := 2) (v := .slice (some ⟨w3.heap.size, 0, none⟩) 6 6) rfl
      have hbx := ((hbw6.setCell (p := ⟨w.heap.size, 0, none⟩) (Nat.le_refl _) (.slice A1 ts.length c1)).setCell (p := ⟨w.heap.size, 1, none⟩) (Nat.le_refl _) (.slice A2 (seenOf { s with dn := ts }).length c2)).setCell (p := ⟨w.heap.size, 2, none⟩) (Nat.le_refl _) (.slice (some ⟨w3.heap.size, 0, none⟩) 6 6)
      have o1 := own_far (own_far (own_far ho1 (p := ⟨w.heap.size, 0, none⟩) (by simp; omega) (.slice A1 ts.length c1)) (p := ⟨w.heap.size, 1, none⟩) (by simp; omega) (.slice A2 (seenOf { s with dn := ts }).length c2)) (p := ⟨w.heap.size, 2, none⟩) (by simp; omega) (.slice (some ⟨w3.heap.size, 0, none⟩) 6 6)
      have o2 := own_far (own_far (own_far ho2 (p := ⟨w.heap.size, 0, none⟩) (by simp; omega) (.slice A1 ts.length c1)) (p := ⟨w.heap.size, 1, none⟩) (by simp; omega) (.slice A2 (seenOf { s with dn := ts }).length c2)) (p := ⟨w.heap.size, 2, none⟩) (by simp; omega) (.slice (some ⟨w3.heap.size, 0, none⟩) 6 6)
      have o3 := ((hl6b.far (p := ⟨w.heap.size, 0, none⟩) (by simp; omega) (.slice A1 ts.length c1)).far (p := ⟨w.heap.size, 1, none⟩) (by simp; omega) (.slice A2 (seenOf { s with dn := ts }).length c2)).far (p := ⟨w.heap.size, 2, none⟩) (by simp; omega) (.slice (some ⟨w3.heap.size, 0, none⟩) 6 6)
      have o4 := rd_own (own_blk o3 (base := 0) (size := 1) (n := 6) (Nat.zero_le _) (by decide) (by unfold cellsI; rw [List.length_map, hla]))
      have HO := hide (And.intro (rd_own o1) (And.intro (rd_own o2) o4))
      have hcap := own_capV ho1
      clear o1 o2 o3 o4 ho1 ho2 hR hB4 hlB hl6b
      go_wp2
      refine bodyPost_ret (v := .tuple #[.agg #[.slice A1 ts.length c1, .slice A2 (seenOf { s with dn := ts }).length c2, .slice (some ⟨w3.heap.size, 0, none⟩) 6 6], .nilIface]) (by simp [results, Tryz.results17, go_sem, r0, r1, r2]) rfl ?_
      exact ⟨ts, ⟨HPM.out, HUP.out.imp (fun h => by omega)⟩, A1, c1, A2, c2, w3.heap.size, _, _, rfl, (unhide HO).1, (unhide HO).2.1, by rw [HLF.out]; exact (unhide HO).2.2, hbx, hcap⟩
set_option maxRecDepth 100000 in
set_option maxHeartbeats 4000000 in
theorem ver_no (A : Option Addr) (n c : Nat) (h : List HOp) (w : World) (hr : Rd w w.heap.size 3 A n (cellsH h)) (hm : n ≤ 6000000000000) (hno : ¬ okH h) :
    Calls Tryz.prog 17 #[.slice A n c] w fun e w' => e = .returned (.tuple #[.agg #[.slice none 0 0, .slice none 0 0, .slice none 0 0], errV (checkF h).2]) ∧ Below w.heap.size w w' := by
  have CR := hide (fun w1 (hb : Below w.heap.size w w1) => right_h A n c h w1 ((hr.below hb).more hb.size) hm)
  rw [ne_errV (show (checkF h).2 ≠ 0 from hno)] at CR ⊢
  generalize (checkF h).2 = ev at *
  have HZ := hide (fun w1 (hb : Below (w.heap.size + 1) (w.alloc (.cells #[.slice none 0 0, .slice none 0 0, .slice none 0 0] 40)) w1) => (Blk.new w 40 [.slice none 0 0, .slice none 0 0, .slice none 0 0]).below hb (Nat.lt_succ_self _))
  have hb0 : Below w.heap.size w (w.alloc (.cells #[.slice none 0 0, .slice none 0 0, .slice none 0 0] 40)) := (Below.refl _ _).alloc (Nat.le_refl _) _
  have HB0 := hide hb0
  have hz0 : (w.alloc (.cells #[.slice none 0 0, .slice none 0 0, .slice none 0 0] 40)).heap.size = w.heap.size + 1 := by simp
  clear hr hno hb0
  go_enter Tryz.func17, Tryz.ntmps17
  go_wp2_with fail
  refine (unhide CR _ (unhide HB0)).mono ?_
  rintro e w1 ⟨rfl, hb1⟩
  have hbw1 := (unhide HB0).trans (hb1.mono (unhide HB0).size)
  have hB4 := unhide HZ w1 (hb1.mono (by omega))
  have x0 := hB4.cellS (i := 0) (v := .slice none 0 0) rfl
  have x1 := hB4.cellS (i := 1) (v := .slice none 0 0) rfl
  have x2 := hB4.cellS (i := 2) (v := .slice none 0 0) rfl
  have f0 := hB4.frozen 0
  have f1 := hB4.frozen 1
  have f2 := hB4.frozen 2
  have hR := ((hB4.put 0 (.slice none 0 0)).put 1 (.slice none 0 0)).put 2 (.slice none 0 0)
  have r0 := hR.cellS (i := 0) (v := .slice none 0 0) rfl
  have r1 := hR.cellS (i := 1) (v := .slice none 0 0) rfl
  have r2 := hR.cellS (i := 2) (v := .slice none 0 0) rfl
  have hbx := ((hbw1.setCell (p := ⟨w.heap.size, 0, none⟩) (Nat.le_refl _) (.slice none 0 0)).setCell (p := ⟨w.heap.size, 1, none⟩) (Nat.le_refl _) (.slice none 0 0)).setCell (p := ⟨w.heap.size, 2, none⟩) (Nat.le_refl _) (.slice none 0 0)
  clear hR hB4 HZ HB0 CR
  go_wp2
  refine bodyPost_ret (v := .tuple #[.agg #[.slice none 0 0, .slice none 0 0, .slice none 0 0], .iface 57 (.int .i64 ev)]) (by simp [results, Tryz.results17, go_sem, r0, r1, r2]) rfl ?_
  exact ⟨rfl, hbx⟩
end Go.Proofs.YtmehghkpghbpjaaGreat
