
/-
  CONTRACT of the runner's drain, from that of do.
  PLAIN: a runner's jobs come to an end: the rules.
  CONTRACT of the runner's avoid, from that of abort.
-/
import Derived.Test.YtbccnafdfeempaaGreatDoorQ35
import Derived.Test.YtbccnafdfeempaaGreatDoorQ14

namespace Go.Proofs.YtbccnafdfeempaaGreatDoor
open Go.RowKit

theorem least_ex {p : Nat → Prop} (h : ∃ m, p m) : ∃ m, p m ∧ ∀ k, p k → m ≤ k := by
  obtain ⟨m, hm⟩ := h
  induction m using Nat.strongRecOn with
  | ind m ih =>
    by_cases h2 : ∃ k, k < m ∧ p k
    · obtain ⟨k, hk, hp⟩ := h2
      exact ih k hk hp
    · exact ⟨m, hm, fun k hk => Nat.le_of_not_lt fun hl => h2 ⟨k, hl, hk⟩⟩
theorem least_spec {p : Nat → Prop} (h : ∃ m, p m) : p (Classical.epsilon fun m => p m ∧ ∀ k, p k → m ≤ k) ∧ ∀ k, p k → (Classical.epsilon fun m => p m ∧ ∀ k, p k → m ≤ k) ≤ k :=
  Classical.epsilon_spec (least_ex h)
theorem QRow.shape {w : World} {lo : Nat} {e : TypeId} {v : Value} {l : List HOp} (h : QRow w lo e v l) : ∃ A c, v = .slice A l.length c := by
  rcases h with ⟨rfl, rfl⟩ | ⟨g, o, c, cur, rfl, _⟩
  · exact ⟨none, 0, rfl⟩
  · exact ⟨_, c, rfl⟩
/-- Where drain stands, with so much fuel left. -/
def DrainI (way : Int) (lo n : Nat) (tx : Int) (s' : RSt) (L : RLay) (w : World) (tag : Nat → Int × Nat) (wr : World) (m : Nat) : Prop :=
  ∃ s1 xH xW xT xV tag1, m ≤ n + 1 ∧ runJ way m (.drain tx) s1 = some s' ∧ SHeap way lo wr s1 ⟨L.g, L.gt, L.gw, L.gb, L.ga, xH, xW, xT, xV⟩ tag1 ∧ StepS w wr tag tag1
theorem drainE_pos {way : Int} {m : Nat} {tx : Int} {s s' : RSt} (h : runJ way m (.drain tx) s = some s') : ∃ m', m = m' + 1 := by
  cases m with
  | zero => simp [runJ] at h
  | succ m => exact ⟨m, rfl⟩

set_option maxRecDepth 100000 in
set_option maxHeartbeats 4000000 in
theorem drain_any {way : Int} {lo n : Nat} (hO : ∀ m, m ≤ n → DoC way lo m) : DrainC way lo (n + 1) := by
  intro tx s s' L tag w H hrun ht hv
  have HLE := Lib.hid (And.intro ht hv)
  have hmap2 : Tryz.prog.underlying 54 = some (.map 3 43) := by kernel_rfl
  have hmap3 : Tryz.prog.underlying 55 = some (.map 3 22) := by kernel_rfl
  have hintT : Tryz.prog.underlying 3 = some (.int .i64) := by kernel_rfl
  have hz2 : ∀ w, (zeroValue 43).run Tryz.prog w = .ok (⟨0, 0, 0⟩ : HOp).val w := fun w => by kernel_rfl
  have hz3 : ∀ w, (zeroValue 22).run Tryz.prog w = .ok nilS w := fun w => by kernel_rfl
  have HT := Lib.hid (And.intro hmap2 (And.intro hmap3 (And.intro hintT (And.intro hz2 hz3))))
  have hst : DrainI way lo n tx s' L w tag w (n + 1) := by
    obtain ⟨g, gt, gw, gb, ga, vH, vW, vT, vV⟩ := L
    exact ⟨s, vH, vW, vT, vV, tag, Nat.le_refl _, hrun, H, StepS.refl _ _⟩
  clear hmap2 hmap3 hintT hz2 hz3 ht hv hrun H
  go_enter Tryz.func37, Tryz.ntmps37
  go_wp2
  go_loopw [4] (fun s4 wr => s4 = .nilIface ∧ ∃ m, DrainI way lo n tx s' L w tag wr m) (fun _ wr => Classical.epsilon (fun m => DrainI way lo n tx s' L w tag wr m ∧ ∀ k, DrainI way lo n tx s' L w tag wr k → m ≤ k))
  case atStart => exact ⟨rfl, _, hst⟩
  case round =>
    clear hst
    obtain ⟨rfl, hex⟩ := hrel
    obtain ⟨h1, h2⟩ := least_spec hex
    have HLS := Lib.hid h2
    generalize (Classical.epsilon fun m => DrainI way lo n tx s' L w tag wr m ∧ ∀ k, DrainI way lo n tx s' L w tag wr k → m ≤ k) = m0 at *
    obtain ⟨s1, xH, xW, xT, xV, tag1, hm, hr1, hH, hS⟩ := h1
    obtain ⟨m, rfl⟩ := drainE_pos hr1
    unfold runJ at hr1
    obtain ⟨_, _, q2, q3, _⟩ := hH.cells
    simp only at q2 q3
    have hgr1 : L.g < wr.heap.size := hH.run.1.lt
    obtain ⟨fb, hfb1, hfb2⟩ := hH.bh
    simp only at hfb1
    obtain ⟨V, hV⟩ : ∃ V, (fb tx).getD nilS = V := ⟨_, rfl⟩
    have hq1 := (hfb2 tx).1
    rw [hV] at hq1
    have HV := Lib.hid hV
    clear hex h2 hV
    cases hbx : s1.bh tx with
    | nil =>
      rw [hbx] at hr1 hq1
      simp only at hr1
      injection hr1 with hr1
      subst hr1
      obtain ⟨A, c, rfl⟩ := hq1.shape
      simp only [List.length_nil] at HV
      have HH := Lib.hid hH
      go_wp2_with ((with_reducible show wpList _ _ _ _ _ _); (refine wpList_lookupF rfl (.tmp 12) (.tmp 13) _ false rfl HT.out.2.1 HT.out.2.2.1 hfb1.1 (k := tx) (HT.out.2.2.2.2) rfl rfl ?_; rw [if_neg (by simp), HV.out]))
      go_ret
      exact ⟨rfl, _, tag1, HH.out, ⟨rfl, rfl, rfl, rfl, rfl⟩, hS⟩
    | cons o t =>
      rw [hbx] at hr1 hq1
      simp only at hr1
      obtain ⟨gq, off, c, rfl, hlc, hgq, z0, z1, z2, htl⟩ := hq1.head
      obtain ⟨nt, hnt⟩ : ∃ nt, t.length = nt := ⟨_, rfl⟩
      have HNT := Lib.hid hnt
      rw [hnt] at hlc htl HV
      have hlt0 : (0 : Int) < (nt : Int) + 1 := by omega
      have hlt0n : 0 < nt + 1 := by omega
      have HTLV := Lib.hid htl
      clear hq1 htl hnt
      cases hwt : s1.wt tx with
      | some ow =>
        rw [hwt] at hr1
        rw [if_pos (show (some ow).isSome = true from rfl)] at hr1
        injection hr1 with hr1
        subst hr1
        have hfw : fWt s1 tx = some ow.val := by unfold fWt; rw [hwt]; rfl
        obtain ⟨o1, o2, o3⟩ := ow
        unfold HOp.val at hfw
        have HFW := Lib.hid hfw
        have HH := Lib.hid hH
        clear hfw
        go_wp2_with (first
          | ((with_reducible show wpList _ _ _ _ _ _); (refine wpList_lookupF rfl (.tmp 12) (.tmp 13) _ false rfl HT.out.2.1 HT.out.2.2.1 hfb1.1 (k := tx) (HT.out.2.2.2.2) rfl rfl ?_; rw [if_neg (by simp), HV.out]))
          | ((with_reducible show wpList _ _ _ _ _ _); (refine wpList_lookupF rfl (.tmp 21) (.tmp 22) _ true rfl HT.out.1 HT.out.2.2.1 HH.out.wt.1 (k := tx) (HT.out.2.2.2.1) rfl rfl ?_; rw [if_pos rfl, HFW.out]; simp only [Option.getD_some, Option.isSome_some])))
        go_ret
        have hbl := (Below.refl wr.heap.size wr).alloc (Nat.le_refl _) (.cells #[.int .i64 o1, .int .i64 o2, .int .i64 o3] 43)
        exact ⟨rfl, _, tag1, HH.out.below hbl, ⟨rfl, rfl, rfl, rfl, rfl⟩, hS.trans (StepS.below hbl)⟩
      | none =>
        rw [hwt] at hr1
        rw [if_neg (by simp)] at hr1
        have hfw : fWt s1 tx = none := by unfold fWt; rw [hwt]; rfl
        have HFW := Lib.hid hfw
        have HH := Lib.hid hH
        cases hq : runJ way m (.doo o) { s1 with bh := updR s1.bh tx t } with
        | none => rw [hq] at hr1; cases hr1
        | some s2 =>
        rw [hq] at hr1
        simp only at hr1
        have HR2 := Lib.hid hr1
        have hlen2 := runJ_told _ _ _ _ hr1
        have CD := hide (fun L2 tag2 w2 (h2 : SHeap way lo w2 { s1 with bh := updR s1.bh tx t } L2 tag2) => hO m (by omega) o _ s2 L2 tag2 w2 h2 hq (by have := HLE.out; omega) (by have := HLE.out; omega))
        obtain ⟨o1, o2, o3⟩ := o
        simp only at z0 z1 z2
        have hba : Below wr.heap.size wr (wr.alloc (.cells #[.int .i64 0, .int .i64 0, .int .i64 0] 43)) := (Below.refl _ _).alloc (Nat.le_refl _) _
        have hfa := hfb1.but (tag' := tag1) (But.below hba (Nat.le_refl _) : But wr.heap.size tag1 (fun _ => False) wr _) id fun _ _ => rfl
        clear hfw hr1 hq hlen2
        go_wp2_with (first
          | ((with_reducible show wpList _ _ _ _ _ _); (refine wpList_lookupF rfl (.tmp 12) (.tmp 13) _ false rfl HT.out.2.1 HT.out.2.2.1 hfb1.1 (k := tx) (HT.out.2.2.2.2) rfl rfl ?_; rw [if_neg (by simp), HV.out]))
          | ((with_reducible show wpList _ _ _ _ _ _); (refine wpList_lookupF rfl (.tmp 21) (.tmp 22) _ true rfl HT.out.1 HT.out.2.2.1 HH.out.wt.1 (k := tx) (HT.out.2.2.2.1) rfl rfl ?_; rw [if_pos rfl, HFW.out]; simp only [Option.getD_none, Option.isSome_none]; unfold HOp.val))
          | ((with_reducible show wpList _ _ _ _ _ _); (refine wpList_lookupF rfl (.tmp 30) (.tmp 31) _ false rfl HT.out.2.1 HT.out.2.2.1 hfa.1 (k := tx) (HT.out.2.2.2.2) rfl rfl ?_; rw [if_neg (by simp), HV.out])))
        have hbb : Below wr.heap.size wr ((wr.alloc (.cells #[.int .i64 0, .int .i64 0, .int .i64 0] 43)).alloc (.cells #[.int .i64 o1, .int .i64 o2, .int .i64 o3] 43)) := hba.alloc hba.size _
        have hB7 : Blk ((wr.alloc (.cells #[.int .i64 0, .int .i64 0, .int .i64 0] 43)).alloc (.cells #[.int .i64 o1, .int .i64 o2, .int .i64 o3] 43)) (wr.heap.size + 1) 43 [.int .i64 o1, .int .i64 o2, .int .i64 o3] := by
          have := Blk.new (wr.alloc (.cells #[.int .i64 0, .int .i64 0, .int .i64 0] 43)) 43 [.int .i64 o1, .int .i64 o2, .int .i64 o3]
          simpa using this
        generalize (wr.alloc (.cells #[.int .i64 0, .int .i64 0, .int .i64 0] 43)).alloc (.cells #[.int .i64 o1, .int .i64 o2, .int .i64 o3] 43) = wb at *
        have hbd := hbb.drew
        have hHd := hH.below hbd
        have hfd := hfb1.but (tag' := tag1) (But.below hbd (Nat.le_refl _) : But wr.heap.size tag1 (fun _ => False) wr _) id fun _ _ => rfl
        obtain ⟨_, _, _, b3, _⟩ := hHd.cells
        simp only at b3
        have b3' : wb.cell? ⟨L.g, 3, none⟩ = some (.map (some L.gb)) := b3
        have lk : (Instr.lookup 55 (.map (some L.gb)) (.int .i64 tx) false).run Tryz.prog wb.drew = .ok (.slice (some ⟨gq, off, none⟩) (nt + 1) c) wb.drew := by
          rw [run_lookupF HT.out.2.1 HT.out.2.2.1 hfd.1 tx (HT.out.2.2.2.2 _) false, if_neg (by simp), HV.out]
        have hl1 : (1 : Int) ≤ (nt : Int) + 1 := by omega
        have hl2 : (nt : Int) + 1 ≤ (c : Int) := by omega
        have e1 : nt + 1 - 1 = nt := by omega
        have HHD := Lib.hid hHd
        have HFD := Lib.hid hfd
        have hrow := HTLV.out.kept (w' := wb.drew) (fun g hg => (hbd.block g (by
          have : gq = g := by
            simp only [Value.ownBlock] at hg
            split at hg <;> exact Option.some.inj hg
          omega)))
        have HROW := Lib.hid hrow
        have HFB2 := Lib.hid (fun k => And.intro ((hfb2 k).1.kept (w' := wb.drew) (fun g hg => hbd.block g ((hfb2 k).1.lt hg).2)) (hfb2 k).2)
        have HGB := Lib.hid (show L.gb < wr.heap.size from hfb1.1.lt)
        have htg : tag1 gq = (tx, 9) := (hfb2 tx).2 gq (by rw [HV.out]; rfl)
        have HTG := Lib.hid htg
        have hSb := hS.trans (StepS.below (tag := tag1) hbd)
        have HRN : wr.heap.size + 1 < wb.heap.size := hB7.lt
        clear hba hfa hbb hHd hfd hrow htg z0 z1 z2 hS hfb1 hfb2 hH HTLV q2 q3
        obtain ⟨V2, hV2⟩ : ∃ V2, Value.slice (some (if c = 1 then (⟨gq, off, none⟩ : Addr) else ⟨gq, off + 3, none⟩)) nt (c - 1) = V2 := ⟨_, rfl⟩
        rw [hV2] at HROW
        have HB2 := Lib.hid (show V2.ownBlock = some gq by rw [← hV2]; simp only [Value.ownBlock]; split <;> rfl)
        have HFIN : Hid (∀ w3, MapF w3 L.gb (updR fb tx (some V2)) → wb.drew.grownBy w3 (some L.gb) → SHeap way lo w3 { s1 with bh := updR s1.bh tx t } ⟨L.g, L.gt, L.gw, L.gb, L.ga, xH, xW, xT, xV⟩ tag1 ∧ StepS w w3 tag tag1 ∧ Blk w3 (wr.heap.size + 1) 43 [.int .i64 o1, .int .i64 o2, .int .i64 o3] ∧ L.g < w3.heap.size) := Lib.hid (by
          intro w3 hm3 hg3
          have hb3 := grown_but (tag := tag1) (P := fun m => m = (0, 4)) hg3 fun k hk => (by rw [← (show L.gb = k by injection hk)]; exact HFD.out.2.1)
          have hrow3 : QRow w3 lo 43 V2 t := HROW.out.kept fun g hg => hg3.block g (HROW.out.lt hg).2 (fun e => by
            have e1 : L.gb = g := by injection e with e; exact e.symm
            have e2 : gq = g := Option.some.inj (HB2.out.symm.trans hg)
            have e3 := HTG.out
            rw [e2, ← e1, HFD.out.2.1] at e3
            injection e3 with _ e3
            cases e3)
          obtain ⟨hH3, hS3⟩ := HHD.out.behind (x := tx) (l := t) (hb3.mono fun m h => Or.inl h) (fun _ _ => rfl) (HBh.put HFD.out HFB2.out (hb3.mono fun m h => Or.inl h) (fun _ _ => rfl) hm3 hrow3 (fun j hj => by
            have e2 : gq = j := Option.some.inj (HB2.out.symm.trans hj)
            rw [← e2]; exact HTG.out))
          exact ⟨hH3, hSb.trans hS3, hB7.drew.grown hg3 (fun k hk e => by have h7 := HGB.out; have h8 : L.gb = k := (by injection hk); omega), hH3.run.1.lt⟩)
        have HCK : Hid (∀ wx e, RPost way lo wx s2 ⟨L.g, L.gt, L.gw, L.gb, L.ga, xH, xW, xT, xV⟩ tag1 e wx → True) := Lib.hid (fun _ _ _ => trivial)
        by_cases hc1 : c = 1
        · subst hc1
          obtain rfl : nt = 0 := by omega
          simp only [if_true] at hV2
          clear hSb hB7
          go_still_tail 12, (by kernel_rfl)
          (with_reducible show wpList _ _ _ _ _ _)
          refine wpList_updateF rfl (.tmp 38) (.tmp 39) (.tmp 46) _ rfl HT.out.2.1 HT.out.2.2.1 HFD.out.1 (k := tx) (u := V2) (by rfl) (by rfl) (by rw [← hV2]; rfl) ?_
          intro w3 hm3 hg3
          obtain ⟨hH3, hS3, hB73, hgr3⟩ := HFIN.out w3 hm3 hg3
          have n0 := hB73.cellS (i := 0) (v := .int .i64 o1) rfl
          have n1 := hB73.cellS (i := 1) (v := .int .i64 o2) rfl
          have n2 := hB73.cellS (i := 2) (v := .int .i64 o3) rfl
          have CD2 := hide (unhide CD _ _ _ hH3)
          clear hm3 hg3 hH3 hB73 HFIN
          go_wp2_with fail
          refine (unhide CD2).mono ?_
          rintro e w9 hP
          obtain ⟨rfl, uH, uW, uT, uV, tag9, hH9, hS9⟩ := hP.get
          have hI9 : DrainI way lo n tx s' L w tag w9 m := ⟨s2, uH, uW, uT, uV, tag9, by omega, HR2.out, hH9, hS3.trans hS9⟩
          have HLM := Lib.hid (Nat.lt_of_le_of_lt ((least_spec ⟨m, hI9⟩).2 m hI9) (Nat.lt_succ_self m))
          clear hP CD2 hH9 hS9 hS3
          go_wp2
          go_roundw
          case rel => exact ⟨rfl, m, hI9⟩
          case measure => exact HLM.out
        · have hc2 : 1 < c := by omega
          rw [if_neg hc1] at hV2
          have hcb : ((c : Int) == 1) = false := by simp; omega
          clear hSb hB7
          go_still_tail 12, (by kernel_rfl)
          (with_reducible show wpList _ _ _ _ _ _)
          refine wpList_updateF rfl (.tmp 38) (.tmp 39) (.tmp 46) _ rfl HT.out.2.1 HT.out.2.2.1 HFD.out.1 (k := tx) (u := V2) (by rfl) (by rfl) (by rw [← hV2]; rfl) ?_
          intro w3 hm3 hg3
          obtain ⟨hH3, hS3, hB73, hgr3⟩ := HFIN.out w3 hm3 hg3
          have n0 := hB73.cellS (i := 0) (v := .int .i64 o1) rfl
          have n1 := hB73.cellS (i := 1) (v := .int .i64 o2) rfl
          have n2 := hB73.cellS (i := 2) (v := .int .i64 o3) rfl
          have CD2 := hide (unhide CD _ _ _ hH3)
          clear hm3 hg3 hH3 hB73 HFIN
          go_wp2_with fail
          refine (unhide CD2).mono ?_
          rintro e w9 hP
          obtain ⟨rfl, uH, uW, uT, uV, tag9, hH9, hS9⟩ := hP.get
          have hI9 : DrainI way lo n tx s' L w tag w9 m := ⟨s2, uH, uW, uT, uV, tag9, by omega, HR2.out, hH9, hS3.trans hS9⟩
          have HLM := Lib.hid (Nat.lt_of_le_of_lt ((least_spec ⟨m, hI9⟩).2 m hI9) (Nat.lt_succ_self m))
          clear hP CD2 hH9 hS9 hS3
          go_wp2
          go_roundw
          case rel => exact ⟨rfl, m, hI9⟩
          case measure => exact HLM.out
end Go.Proofs.YtbccnafdfeempaaGreatDoor


namespace Go.Proofs.YtbccnafdfeempaaGreatDoor
open Go.RowKit

/-- With enough fuel a job comes to an end. -/
def EndsJ (way : Int) (j : Job) (s s' : RSt) : Prop := ∃ N, ∀ k, N ≤ k → runJ way k j s = some s'
theorem EndsJ.free {way tx : Int} {s s' : RSt} (ht : txB tx = true) (h : EndsJ way (.go (freeS s.T tx).out) { s with T := freeT s.T tx } s') : EndsJ way (.free tx) s s' := by
  obtain ⟨N, h⟩ := h
  refine ⟨N + 1, fun k hk => ?_⟩
  obtain ⟨k, rfl⟩ : ∃ m, k = m + 1 := ⟨k - 1, by omega⟩
  unfold runJ
  rw [if_neg (by rw [ht]; simp)]
  exact h k (by omega)
theorem EndsJ.nil (way : Int) (s : RSt) : EndsJ way (.go []) s s := ⟨1, fun k hk => by
  obtain ⟨k, rfl⟩ : ∃ m, k = m + 1 := ⟨k - 1, by omega⟩
  rfl⟩
theorem EndsJ.skip {way : Int} {x : HOp} {t : List HOp} {s s' : RSt} (hw : s.wt x.tx = none) (h : EndsJ way (.go t) s s') : EndsJ way (.go (x :: t)) s s' := by
  obtain ⟨N, h⟩ := h
  refine ⟨N + 1, fun k hk => ?_⟩
  obtain ⟨k, rfl⟩ : ∃ m, k = m + 1 := ⟨k - 1, by omega⟩
  unfold runJ
  rw [hw]
  exact h k (by omega)
theorem EndsJ.cons {way : Int} {x o : HOp} {t : List HOp} {s s1 s' : RSt} (hw : s.wt x.tx = some o) (h1 : EndsJ way (.drain x.tx) { s with wt := updR s.wt x.tx none, told := s.told ++ [o] } s1) (h : EndsJ way (.go t) s1 s') : EndsJ way (.go (x :: t)) s s' := by
  obtain ⟨N, h⟩ := h
  obtain ⟨M, h1⟩ := h1
  refine ⟨N + M + 1, fun k hk => ?_⟩
  obtain ⟨k, rfl⟩ : ∃ m, k = m + 1 := ⟨k - 1, by omega⟩
  unfold runJ
  rw [hw]
  simp only
  rw [h1 k (by omega)]
  exact h k (by omega)
theorem EndsJ.drain0 {way tx : Int} {s : RSt} (h : s.bh tx = [] ∨ (s.wt tx).isSome = true) : EndsJ way (.drain tx) s s := ⟨1, fun k hk => by
  obtain ⟨k, rfl⟩ : ∃ m, k = m + 1 := ⟨k - 1, by omega⟩
  unfold runJ
  cases hb : s.bh tx with
  | nil => rfl
  | cons o t =>
    rcases h with h | h
    · rw [hb] at h; cases h
    · simp only; rw [if_pos h]⟩
theorem EndsJ.drain1 {way tx : Int} {o : HOp} {t : List HOp} {s s1 s' : RSt} (hb : s.bh tx = o :: t) (hw : s.wt tx = none) (h1 : EndsJ way (.doo o) { s with bh := updR s.bh tx t } s1) (h : EndsJ way (.drain tx) s1 s') : EndsJ way (.drain tx) s s' := by
  obtain ⟨N, h⟩ := h
  obtain ⟨M, h1⟩ := h1
  refine ⟨N + M + 1, fun k hk => ?_⟩
  obtain ⟨k, rfl⟩ : ∃ m, k = m + 1 := ⟨k - 1, by omega⟩
  unfold runJ
  rw [hb]
  simp only
  rw [hw, if_neg (by simp), h1 k (by omega)]
  exact h k (by omega)
theorem EndsJ.abort {way tx : Int} {s s' : RSt} (h : EndsJ way (.free tx) (s.aborts tx) s') : EndsJ way (.abort tx) s s' := by
  obtain ⟨N, h⟩ := h
  refine ⟨N + 1, fun k hk => ?_⟩
  obtain ⟨k, rfl⟩ : ∃ m, k = m + 1 := ⟨k - 1, by omega⟩
  unfold runJ
  exact h k (by omega)
theorem EndsJ.doEnd {way : Int} {o : HOp} {s s' : RSt} (he : endB o = true) (h : EndsJ way (.free o.tx) (s.tells o) s') : EndsJ way (.doo o) s s' := by
  obtain ⟨N, h⟩ := h
  refine ⟨N + 1, fun k hk => ?_⟩
  obtain ⟨k, rfl⟩ : ∃ m, k = m + 1 := ⟨k - 1, by omega⟩
  unfold runJ
  rw [if_pos he]
  exact h k (by omega)
theorem EndsJ.doHas {way : Int} {o : HOp} {s : RSt} (he : endB o = false) {T' : LTab} (ha : askF s.T (lockOf o) = (true, 0, T')) : EndsJ way (.doo o) s { s.tells o with T := T' } := ⟨1, fun k hk => by
  obtain ⟨k, rfl⟩ : ∃ m, k = m + 1 := ⟨k - 1, by omega⟩
  unfold runJ
  rw [if_neg (by rw [he]; simp), ha]
  rfl⟩
theorem EndsJ.doWaits {way : Int} {o : HOp} {s s' : RSt} (he : endB o = false) {T' : LTab} (ha : askF s.T (lockOf o) = (false, 0, T')) (h : EndsJ way (.avoid o.tx) { s with T := T', wt := updR s.wt o.tx (some o) } s') : EndsJ way (.doo o) s s' := by
  obtain ⟨N, h⟩ := h
  refine ⟨N + 1, fun k hk => ?_⟩
  obtain ⟨k, rfl⟩ : ∃ m, k = m + 1 := ⟨k - 1, by omega⟩
  unfold runJ
  rw [if_neg (by rw [he]; simp), ha]
  simp only [ne_eq, not_true_eq_false, if_false, Bool.false_eq_true]
  exact h k (by omega)
/-- Whom an avoiding deal aborts next. -/
def nextA (way : Int) (T : LTab) (tx : Int) : Option Int :=
  if way = 0 then (if rngF T tx = true then some tx else none)
  else if way = 1 then match whomF T tx with
    | [] => none
    | d :: _ => if tx < d then none else some tx
  else (whomF T tx).find? (fun d => decide (tx < d))
def againA (way : Int) : Bool := !decide (way = 0) && !decide (way = 1)
theorem EndsJ.avoid0 {way tx : Int} {s : RSt} (h : nextA way s.T tx = none) : EndsJ way (.avoid tx) s s := ⟨1, fun k hk => by
  obtain ⟨k, rfl⟩ : ∃ m, k = m + 1 := ⟨k - 1, by omega⟩
  unfold nextA at h
  unfold runJ
  by_cases h0 : way = 0
  · rw [if_pos h0] at h ⊢
    split at h
    · cases h
    · rename_i h1; rw [if_neg h1]
  · rw [if_neg h0] at h ⊢
    by_cases h1 : way = 1
    · rw [if_pos h1] at h ⊢
      split at h
      · rename_i e; rw [e]
      · rename_i d r e
        rw [e]
        simp only
        split at h
        · rename_i h2; rw [if_pos h2]
        · cases h
    · rw [if_neg h1] at h ⊢
      rw [h]⟩
theorem EndsJ.avoid1 {way tx d : Int} {s s1 s' : RSt} (h : nextA way s.T tx = some d) (h1 : EndsJ way (.abort d) s s1) (h2 : if againA way = true then EndsJ way (.avoid tx) s1 s' else s' = s1) : EndsJ way (.avoid tx) s s' := by
  obtain ⟨M, h1⟩ := h1
  have key : ∃ N, ∀ k, N ≤ k → againA way = true → runJ way k (.avoid tx) s1 = some s' := by
    by_cases ha : againA way = true
    · rw [if_pos ha] at h2
      obtain ⟨N, h2⟩ := h2
      exact ⟨N, fun k hk _ => h2 k hk⟩
    · exact ⟨0, fun k _ h => absurd h ha⟩
  obtain ⟨N, key⟩ := key
  refine ⟨N + M + 1, fun k hk => ?_⟩
  obtain ⟨k, rfl⟩ : ∃ m, k = m + 1 := ⟨k - 1, by omega⟩
  unfold nextA at h
  unfold runJ
  by_cases h0 : way = 0
  · rw [if_neg (by unfold againA; rw [h0]; decide)] at h2
    rw [if_pos h0] at h ⊢
    split at h
    · rename_i h3
      injection h with h
      rw [if_pos h3, h2, h]
      exact h1 k (by omega)
    · cases h
  · rw [if_neg h0] at h ⊢
    by_cases h3 : way = 1
    · rw [if_neg (by unfold againA; rw [h3]; decide)] at h2
      rw [if_pos h3] at h ⊢
      split at h
      · cases h
      · rename_i d' r e
        rw [e]
        simp only
        split at h
        · cases h
        · rename_i h4
          injection h with h
          rw [if_neg h4, h2, h]
          exact h1 k (by omega)
    · rw [if_neg h3] at h ⊢
      rw [h]
      simp only
      rw [h1 k (by omega)]
      exact key k (by omega) (by unfold againA; simp [h0, h3])
end Go.Proofs.YtbccnafdfeempaaGreatDoor


namespace Go.Proofs.YtbccnafdfeempaaGreatDoor
open Go.RowKit

/-- Where avoid stands, with so much fuel left. -/
def AvoidI (way : Int) (lo n : Nat) (tx : Int) (s' : RSt) (L : RLay) (w : World) (tag : Nat → Int × Nat) (wr : World) (m : Nat) : Prop :=
  ∃ s1 xH xW xT xV tag1, m ≤ n + 1 ∧ runJ way m (.avoid tx) s1 = some s' ∧ SHeap way lo wr s1 ⟨L.g, L.gt, L.gw, L.gb, L.ga, xH, xW, xT, xV⟩ tag1 ∧ StepS w wr tag tag1
theorem avoidE_pos {way : Int} {m : Nat} {tx : Int} {s s' : RSt} (h : runJ way m (.avoid tx) s = some s') : ∃ m', m = m' + 1 := by
  cases m with
  | zero => simp [runJ] at h
  | succ m => exact ⟨m, rfl⟩

set_option maxRecDepth 100000 in
set_option maxHeartbeats 2000000 in
theorem avoid_zero {lo n : Nat} (hA : AbortC 0 lo n) : AvoidC 0 lo (n + 1) := by
  intro tx s s' L tag w H hrun ht hv
  unfold runJ at hrun
  rw [if_pos rfl] at hrun
  have CR := hide (ring_any tx w H)
  obtain ⟨q0, _⟩ := H.cells
  have HH := Lib.hid H
  cases hr : rngF s.T tx
  · rw [hr, if_neg (by simp)] at hrun
    rw [hr] at CR
    injection hrun with hrun
    subst hrun
    clear H
    go_enter Tryz.func26, Tryz.ntmps26
    go_wp2_with fail
    refine (unhide CR).mono ?_
    rintro e w1 ⟨rfl, hb1⟩
    go_wp2
    go_ret
    exact ⟨rfl, L, tag, HH.out.below hb1, ⟨rfl, rfl, rfl, rfl, rfl⟩, StepS.below hb1⟩
  · rw [hr, if_pos rfl] at hrun
    rw [hr] at CR
    have CA := hide (fun w1 (hb : Below w.heap.size w w1) => hA tx s s' L tag w1 (HH.out.below hb) hrun ht hv)
    clear H
    go_enter Tryz.func26, Tryz.ntmps26
    go_wp2_with fail
    refine (unhide CR).mono ?_
    rintro e w1 ⟨rfl, hb1⟩
    go_wp2_with fail
    refine (unhide CA w1 hb1).mono ?_
    rintro e w9 hP
    obtain ⟨rfl, hP2⟩ := hP.after (StepS.below hb1) ⟨rfl, rfl, rfl, rfl, rfl⟩
    go_wp2
    go_ret
    exact ⟨rfl, hP2⟩

set_option maxRecDepth 100000 in
set_option maxHeartbeats 2000000 in
theorem avoid_one {lo n : Nat} (hA : AbortC 1 lo n) : AvoidC 1 lo (n + 1) := by
  intro tx s s' L tag w H hrun ht hv
  unfold runJ at hrun
  rw [if_neg (by decide), if_pos rfl] at hrun
  have CW := hide (forWhom_any tx w H)
  obtain ⟨q0, _⟩ := H.cells
  have HH := Lib.hid H
  cases hl : whomF s.T tx with
  | nil =>
    rw [hl] at hrun CW
    simp only at hrun
    injection hrun with hrun
    subst hrun
    clear H
    go_enter Tryz.func26, Tryz.ntmps26
    go_wp2_with fail
    refine (unhide CW).mono ?_
    rintro e w1 ⟨v, rfl, ho1, hb1⟩
    obtain ⟨A, c, rfl⟩ := own_slice ho1
    simp only [List.length_nil]
    go_wp2
    go_ret
    exact ⟨rfl, L, tag, HH.out.below hb1, ⟨rfl, rfl, rfl, rfl, rfl⟩, StepS.below hb1⟩
  | cons d r =>
    rw [hl] at hrun CW
    simp only at hrun
    obtain ⟨nr, hnr⟩ : ∃ nr, (d :: r).length = nr := ⟨_, rfl⟩
    have hnr0 : 0 < nr := by rw [← hnr]; simp
    have hnrb : ((nr : Int) == 0) = false := by simp; omega
    have hnrn : (nr == 0) = false := by simp; omega
    rw [hnr] at CW
    clear hnr
    by_cases hd : tx < d
    · rw [if_pos hd] at hrun
      injection hrun with hrun
      subst hrun
      clear H
      go_enter Tryz.func26, Tryz.ntmps26
      go_wp2_with fail
      refine (unhide CW).mono ?_
      rintro e w1 ⟨v, rfl, ho1, hb1⟩
      obtain ⟨A, c, rfl⟩ := own_slice ho1
      obtain ⟨b, off, x, he, hb, hx, z0⟩ := (rd_own ho1).int (k := 0) hnr0
      cases he
      obtain rfl : d = x := by simpa using hx
      rw [Nat.add_zero] at z0
      go_wp2
      go_ret
      exact ⟨rfl, L, tag, HH.out.below hb1, ⟨rfl, rfl, rfl, rfl, rfl⟩, StepS.below hb1⟩
    · rw [if_neg hd] at hrun
      have CA := hide (fun w1 (hb : Below w.heap.size w w1) => hA tx s s' L tag w1 (HH.out.below hb) hrun ht hv)
      clear H
      go_enter Tryz.func26, Tryz.ntmps26
      go_wp2_with fail
      refine (unhide CW).mono ?_
      rintro e w1 ⟨v, rfl, ho1, hb1⟩
      obtain ⟨A, c, rfl⟩ := own_slice ho1
      obtain ⟨b, off, x, he, hb, hx, z0⟩ := (rd_own ho1).int (k := 0) hnr0
      cases he
      obtain rfl : d = x := by simpa using hx
      rw [Nat.add_zero] at z0
      go_wp2_with fail
      refine (unhide CA w1 hb1).mono ?_
      rintro e w9 hP
      obtain ⟨rfl, hP2⟩ := hP.after (StepS.below hb1) ⟨rfl, rfl, rfl, rfl, rfl⟩
      go_wp2
      go_ret
      exact ⟨rfl, hP2⟩

set_option maxRecDepth 100000 in
set_option maxHeartbeats 4000000 in
theorem avoid_two {way : Int} (h0 : ¬ way = 0) (h1 : ¬ way = 1) {lo n : Nat} (hA : ∀ m, m ≤ n → AbortC way lo m) : AvoidC way lo (n + 1) := by
  intro tx s s' L tag w H hrun ht hv
  have HLE := Lib.hid (And.intro ht hv)
  have h0b : (way == 0) = false := by simpa using h0
  have h1b : (way == 1) = false := by simpa using h1
  have HW := Lib.hid (And.intro h0 h1)
  obtain ⟨q0, _⟩ := H.cells
  have hst : AvoidI way lo n tx s' L w tag w (n + 1) := by
    obtain ⟨g, gt, gw, gb, ga, vH, vW, vT, vV⟩ := L
    exact ⟨s, vH, vW, vT, vV, tag, Nat.le_refl _, hrun, H, StepS.refl _ _⟩
  clear ht hv hrun H h0 h1
  go_enter Tryz.func26, Tryz.ntmps26
  go_wp2
  go_loopw [4] (fun s4 wr => s4 = .nilIface ∧ ∃ m, AvoidI way lo n tx s' L w tag wr m) (fun _ wr => Classical.epsilon (fun m => AvoidI way lo n tx s' L w tag wr m ∧ ∀ k, AvoidI way lo n tx s' L w tag wr k → m ≤ k))
  case atStart => exact ⟨rfl, _, hst⟩
  case round =>
    clear hst
    obtain ⟨rfl, hex⟩ := hrel
    obtain ⟨h1, h2⟩ := least_spec hex
    have HLS := Lib.hid h2
    generalize (Classical.epsilon fun m => AvoidI way lo n tx s' L w tag wr m ∧ ∀ k, AvoidI way lo n tx s' L w tag wr k → m ≤ k) = m0 at *
    obtain ⟨s1, xH, xW, xT, xV, tag1, hm, hr1, hH, hS⟩ := h1
    obtain ⟨m, rfl⟩ := avoidE_pos hr1
    unfold runJ at hr1
    rw [if_neg HW.out.1, if_neg HW.out.2] at hr1
    have CW := hide (forWhom_any tx wr hH)
    have hl6 := whomF_len hH.tab.2.2.2 tx
    have hrg := Lib.hid (fun d hd => whomF_rng (tx := tx) (d := d) hH.tab.2.2.2 hd)
    have HH := Lib.hid hH
    clear hex h2
    obtain ⟨E, hE⟩ : ∃ E, whomF s1.T tx = E := ⟨_, rfl⟩
    rw [hE] at CW hl6 hrg hr1
    obtain ⟨nE, hnE⟩ : ∃ nE, E.length = nE := ⟨_, rfl⟩
    rw [hnE] at CW hl6
    clear hE hnE hH
    simp only at CW
    cases hf : E.find? (fun d => decide (tx < d)) with
    | none =>
      rw [hf] at hr1
      simp only at hr1
      injection hr1 with hr1
      subst hr1
      have HF := Lib.hid hf
      clear hf
      go_wp2_with fail
      refine (unhide CW).mono ?_
      rintro e w1 ⟨v, rfl, ho1, hb1⟩
      obtain ⟨A, c, rfl⟩ := own_slice ho1
      have CL := hide (least_any A nE c E tx w1 (rd_own ho1) (by omega))
      rw [HF.out] at CL
      simp only [Option.getD_none] at CL
      have hSS := hS.trans (StepS.below (tag := tag1) hb1)
      clear CW
      go_wp2_with fail
      refine (unhide CL).mono ?_
      rintro e w2 ⟨rfl, hb2⟩
      go_wp2
      go_ret
      exact ⟨rfl, _, tag1, (HH.out.below hb1).below hb2, ⟨rfl, rfl, rfl, rfl, rfl⟩, hSS.trans (StepS.below hb2)⟩
    | some d =>
      rw [hf] at hr1
      simp only at hr1
      cases hq : runJ way m (.abort d) s1 with
      | none => rw [hq] at hr1; cases hr1
      | some s2 =>
      rw [hq] at hr1
      simp only at hr1
      have HR2 := Lib.hid hr1
      have hlen2 := runJ_told _ _ _ _ hr1
      have CD := hide (fun w2 (h2 : SHeap way lo w2 s1 ⟨L.g, L.gt, L.gw, L.gb, L.ga, xH, xW, xT, xV⟩ tag1) => hA m (by omega) d s1 s2 _ tag1 w2 h2 hq (by have := HLE.out; omega) (by have := HLE.out; omega))
      have hd1 := hrg.out d (List.mem_of_find?_eq_some hf)
      have hdb : (d == 0) = false := by simp; omega
      have HF := Lib.hid hf
      clear hf hr1 hq hlen2
      go_wp2_with fail
      refine (unhide CW).mono ?_
      rintro e w1 ⟨v, rfl, ho1, hb1⟩
      obtain ⟨A, c, rfl⟩ := own_slice ho1
      have CL := hide (least_any A nE c E tx w1 (rd_own ho1) (by omega))
      rw [HF.out] at CL
      simp only [Option.getD_some] at CL
      have hSS := hS.trans (StepS.below (tag := tag1) hb1)
      clear CW
      go_wp2_with fail
      refine (unhide CL).mono ?_
      rintro e w2 ⟨rfl, hb2⟩
      have CD2 := hide (unhide CD w2 ((HH.out.below hb1).below hb2))
      have hS2 := hSS.trans (StepS.below (tag := tag1) hb2)
      clear CL
      go_wp2_with fail
      refine (unhide CD2).mono ?_
      rintro e w9 hP
      obtain ⟨rfl, uH, uW, uT, uV, tag9, hH9, hS9⟩ := hP.get
      have hI9 : AvoidI way lo n tx s' L w tag w9 m := ⟨s2, uH, uW, uT, uV, tag9, by omega, HR2.out, hH9, hS2.trans hS9⟩
      have HLM := Lib.hid (Nat.lt_of_le_of_lt ((least_spec ⟨m, hI9⟩).2 m hI9) (Nat.lt_succ_self m))
      clear hP CD2 hH9 hS9 hS2
      go_wp2
      go_roundw
      case rel => exact ⟨rfl, m, hI9⟩
      case measure => exact HLM.out
theorem avoid_any {way : Int} {lo n : Nat} (hA : ∀ m, m ≤ n → AbortC way lo m) : AvoidC way lo (n + 1) := by
  by_cases h0 : way = 0
  · subst h0; exact avoid_zero (hA n (Nat.le_refl _))
  · by_cases h1 : way = 1
    · subst h1; exact avoid_one (hA n (Nat.le_refl _))
    · exact avoid_two h0 h1 hA

/-- All of them, with whatever fuel. -/
structure JC (way : Int) (lo n : Nat) : Prop where
  free : FreeC way lo n
  drain : DrainC way lo n
  abort : AbortC way lo n
  avoid : AvoidC way lo n
  doo : DoC way lo n
theorem jc_any (way : Int) (lo : Nat) : ∀ n, JC way lo n := by
  intro n
  induction n using Nat.strongRecOn with
  | ind n ih =>
    cases n with
    | zero => exact ⟨fun tx s s' L tag w _ h => by simp [runJ] at h, fun tx s s' L tag w _ h => by simp [runJ] at h, fun tx s s' L tag w _ h => by simp [runJ] at h, fun tx s s' L tag w _ h => by simp [runJ] at h, fun tx s s' L tag w _ h => by simp [runJ] at h⟩
    | succ n =>
      have h : ∀ m, m ≤ n → JC way lo m := fun m hm => ih m (Nat.lt_succ_of_le hm)
      exact ⟨free_any fun m hm => (h m hm).drain, drain_any fun m hm => (h m hm).doo, abort_any (h n (Nat.le_refl _)).free, avoid_any fun m hm => (h m hm).abort, do_any (h n (Nat.le_refl _)).free (h n (Nat.le_refl _)).avoid⟩
end Go.Proofs.YtbccnafdfeempaaGreatDoor
