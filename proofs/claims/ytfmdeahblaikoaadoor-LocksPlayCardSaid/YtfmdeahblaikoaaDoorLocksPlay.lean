
/-
  PROVED: lanelaw1.LocksPlay returns true, for all its arguments: locks asked for and freed in any order, as the reference says. The variable errors.errorType starts as the program's text lays it (the card's tie); no condition beyond the form's own reach.
-/
import Derived.Test.YtfmdeahblaikoaaDoorLPlay
import Derived.Test.YtfmdeahblaikoaaDoorOpen
import Derived.Test.YtfmdeahblaikoaaDoorE1
import Derived.StillTailTactics
import Derived.Deep.QuietTactic
import Derived.Deep.DeepCutAuto

namespace Go.Proofs.YtfmdeahblaikoaaDoor.locksPlay
open Go.ChangeShapes Go.WideShapes Go.ChangeAt Go.RowKit Go.Proofs.YtfmdeahblaikoaaDoor

theorem insS_ln (x : Int) (l : List Int) : (insS ltI x l).length ≤ l.length + 1 := insS_le x l
theorem sortI_len (l : List Int) : (sortS ltI l).length ≤ l.length := by
  suffices h : ∀ (l acc : List Int), (sortGo ltI acc l).length ≤ acc.length + l.length by
    have := h l []
    simpa [sortS] using this
  intro l
  induction l with
  | nil => intro acc; simp [sortGo]
  | cons a l ih =>
    intro acc
    have h1 := ih (insS ltI a acc)
    have h2 := insS_ln a acc
    simp only [sortGo, List.length_cons]
    omega
theorem forLL_len (H W : List HOp) (l : HOp) : (forLL H W l).length ≤ H.length + W.length := by
  unfold forLL
  split
  · unfold forF
    have h1 := sortI_len (((H ++ W.takeWhile (notTx l.tx)).filter fun x => loddsB x l).map (·.tx))
    have h2 := List.length_filter_le (fun x => loddsB x l) (H ++ W.takeWhile (notTx l.tx))
    have h3 : (W.takeWhile (notTx l.tx)).length ≤ W.length := (List.takeWhile_prefix _).length_le
    rw [List.length_map] at h1
    rw [List.length_append] at h2
    simp only at h1 ⊢
    omega
  · simp
theorem freeOut_run : ∀ (r : List HOp) (s : FSt), (r.foldl freeStep s).out.length ≤ s.out.length + r.length
  | [], _ => by simp
  | x :: r, s => by
    have h1 := freeOut_run r (freeStep s x)
    have h2 : (freeStep s x).out.length ≤ s.out.length + 1 := by
      unfold freeStep
      split
      · simp
      · simp
    simp only [List.foldl_cons, List.length_cons]
    omega
theorem freeOut_len (T : LTab) (tx : Int) : (freeS T tx).out.length ≤ T.W.length := by
  have h1 := freeOut_run (T.W.filter (notTx tx)) ⟨T.H.filter (notTx tx), [], []⟩
  have h3 := List.length_filter_le (notTx tx) T.W
  unfold freeS
  simp only [List.length_nil] at h1
  omega

set_option maxRecDepth 100000 in
set_option maxHeartbeats 8000000 in
theorem walk (A : Option Addr) (n c : Nat) (l : List HOp) (B : Option Addr) (m d : Nat) (st : List Int) (lx : HOp) (w : World) (hE : Et w) (hr : Rd w w.heap.size 3 A n (cellsH l)) (_hb : n * 24 ≤ 140737488351232) (hs : Rd w w.heap.size 1 B m (cellsI st)) (_hd : m * 8 ≤ 140737488351232) :
    Calls Tryd.prog 4 #[.slice A n c, .slice B m d, lx.val] w fun e w' => e = .returned (.bool true) ∧ Below w.heap.size w w' := by
  have hz0 := hE.pos
  have HRL := hide (fun w' (hb : Below w.heap.size w w') => (hr.below hb).more hb.size)
  have HRS := hide (fun w' (hb : Below w.heap.size w w') => (hs.below hb).more hb.size)
  have HE := hide (fun wx (hb : Below w.heap.size w wx) ev => error_same ev wx (hE.below hb hz0))
  have HER0 := hide (fun wx (hb : Below w.heap.size w wx) => by
    have := unhide HE wx hb 0
    rw [errV_zero] at this
    exact this)
  have HER1 := hide (fun wx (hb : Below w.heap.size w wx) => by
    have := unhide HE wx hb 1
    rw [show errV 1 = .iface 100 (.int .i64 1) from rfl] at this
    exact this)
  have HLN := hide (fun wx => lsame_any none none 0 0 0 [] wx (rd_nil3 _ _) (rd_nil3 _ _) (by omega))
  have CRX := hide (fun w1 => rlock_any lx w1)
  have HRE : Hid ((lrightB lx = true → forE lx = 0 ∧ ∀ H W, forLL H W lx = forF ⟨H, W⟩ lx) ∧ (lrightB lx = false → forE lx = 1 ∧ ∀ H W, forLL H W lx = [])) := Lib.hid ⟨fun h => ⟨by unfold forE; rw [if_pos h], fun H W => by unfold forLL; rw [if_pos h]⟩, fun h => ⟨by unfold forE; rw [h]; rfl, fun H W => by unfold forLL; rw [h]; rfl⟩⟩
  have CQX := hide (fun (y : Nat) (u1 u2 : Value) (H W : List HOp) (w1 : World) (T : TabQ w1 y y u1 u2 H W) (hh : H.length ≤ 200000) (hw : W.length ≤ 200000) => rfor_any y y u1 u2 H W lx w1 T hh hw)
  have CPX := hide (fun (x : Nat) (v1 v2 : Value) (H W : List HOp) (w1 : World) (T : Tab w1 x x v1 v2 H W) (hh : H.length ≤ 100000) (hw : W.length ≤ 100000) => lfor_all x x v1 v2 H W lx w1 T hh hw)
  obtain ⟨rx, hrx⟩ : ∃ rx : Bool, lrightB lx = rx := ⟨_, rfl⟩
  rw [hrx] at CRX HRE
  obtain ⟨fe, hfe⟩ : ∃ fe, forE lx = fe := ⟨_, rfl⟩
  rw [hfe] at CPX HRE
  obtain ⟨l1, l2, l3⟩ := lx
  have hb0 : Below w.heap.size w (w.alloc (.cells #[.int .i64 l1, .int .i64 l2, .int .i64 l3] 35)) := (Below.refl _ _).alloc (Nat.le_refl _) _
  have hB0 := Blk.new w 35 [.int .i64 l1, .int .i64 l2, .int .i64 l3]
  unfold HOp.val at CRX CQX CPX ⊢
  simp only at CRX
  have hz1 : (w.alloc (.cells #[.int .i64 l1, .int .i64 l2, .int .i64 l3] 35)).heap.size = w.heap.size + 1 := by simp
  have HZ1 := Lib.hid hz1
  clear hr hs hE hz0 hrx hfe hz1
  go_enter Tryd.func4, Tryd.ntmps4
  go_wp2_with fail
  generalize w.alloc (.cells #[.int .i64 l1, .int .i64 l2, .int .i64 l3] 35) = w0 at *
  refine (lnew_any _).mono ?_
  rintro e w1 ⟨rfl, hT1, hb1⟩
  generalize hx : w0.heap.size = x at *
  have hx9 : w.heap.size < x := by have := HZ1.out; omega
  have hQ : TabQ (w1.alloc (.cells #[.slice none 0 0, .slice none 0 0] 40)) w1.heap.size w1.heap.size (.slice none 0 0) (.slice none 0 0) [] [] := ⟨Blk.new w1 40 [.slice none 0 0, .slice none 0 0], World.ownsRow_nil _ _ _ _, World.ownsRow_nil _ _ _ _, by simp [Value.ownBlock], Nat.le_refl _⟩
  have hTT : Two (w1.alloc (.cells #[.slice none 0 0, .slice none 0 0] 40)) x w1.heap.size (.slice none 0 0) (.slice none 0 0) (.slice none 0 0) (.slice none 0 0) [] [] [] [] := ⟨hT1.below ((Below.refl _ _).alloc (Nat.le_refl _) _), hQ, fun k hk => by (rcases hk with hk | hk <;> cases hk), hT1.blk.lt⟩
  have hb2 : Below x w0 (w1.alloc (.cells #[.slice none 0 0, .slice none 0 0] 40)) := hb1.alloc (by have := hT1.blk.lt; omega) _
  have HBW := hide (fun w' (hb : Below x w0 w') => hb0.trans (hb.mono (show w.heap.size ≤ x by omega)))
  have HBX := hide (fun w' (hb : Below x w0 w') => hB0.below hb (show w.heap.size < x by omega))
  have hxy1 : x < w1.heap.size := hT1.blk.lt
  clear hb0 hB0 hQ hT1 hb1
  go_wp2_with fail
  generalize w1.alloc (.cells #[.slice none 0 0, .slice none 0 0] 40) = w2 at *
  generalize w1.heap.size = y at *
  go_loopw [9, 10] (fun s9 s10 wr => ∃ (i at_ : Nat) (H W : List HOp) (v1 v2 u1 u2 : Value), i ≤ 80 ∧ at_ ≤ i ∧ s10 = .int .i64 i ∧ s9 = .int .i64 at_ ∧ Two wr x y v1 v2 u1 u2 H W H W ∧ LInv ⟨H, W⟩ ∧ Hid (H.length + W.length ≤ i) ∧ Below x w0 wr) (fun _ s10 _ => 80 - (intOf s10).toNat)
  case atStart => exact ⟨0, 0, [], [], _, _, _, _, by omega, by omega, rfl, rfl, hTT, linv0, Lib.hid (by simp), hb2⟩
  case round =>
    clear hTT hb2
    obtain ⟨i, at_, H, W, v1, v2, u1, u2, hi, hat, rfl, rfl, hT, hI, HLN9, hbw⟩ := hrel
    by_cases h1 : i < m
    rotate_left
    · have hfin := unhide HBW wr hbw
      go_wp2
      go_ret
      exact ⟨rfl, hfin⟩
    by_cases h2 : i < 80
    rotate_left
    · have hfin := unhide HBW wr hbw
      go_wp2
      go_ret
      exact ⟨rfl, hfin⟩
    obtain ⟨wo, rfl⟩ : ∃ wo : World, wo = wr := ⟨_, rfl⟩
    have hxo : x ≤ wo.heap.size := by have := hT.t.blk.lt; omega
    have hyo : y < wo.heap.size := hT.q.blk.lt
    obtain ⟨b, off, s, he, hb, hs, z0⟩ := (unhide HRS wo (unhide HBW wo hbw)).int (k := i) h1
    cases he
    have hln := HLN9.out
    have HVO := Lib.hid (fun k (hk : v1.ownBlock = some k ∨ v2.ownBlock = some k) => show k < wo.heap.size from hk.elim (fun e => (hT.t.held.lt k e).2) (fun e => (hT.t.waits.lt k e).2))
    have HUO := Lib.hid (fun k (hk : u1.ownBlock = some k ∨ u2.ownBlock = some k) => show k < wo.heap.size from hk.elim (fun e => (hT.q.held.lt k e).2) (fun e => (hT.q.waits.lt k e).2))
    have HZK := hide (fun w' (hk : Below x w0 w') => show w'.cell? ⟨b, off + i, none⟩ = some (.int .i64 s) from by
      obtain ⟨b', off', s', he', _, hs', z'⟩ := (unhide HRS w' (unhide HBW w' hk)).int (k := i) h1
      cases he'
      obtain rfl : s' = s := Option.some.inj (hs'.symm.trans hs)
      exact z')
    clear hs hb
    go_upto_if 45 with fail
    go_cut [9, 11] (fun s9 s11 wx => ∃ (at' : Nat) (H' W' : List HOp) (v1' v2' u1' u2' : Value), at' ≤ i + 1 ∧ s9 = .int .i64 at' ∧ s11 = .bool true ∧ Two wx x y v1' v2' u1' u2' H' W' H' W' ∧ LInv ⟨H', W'⟩ ∧ Hid (H'.length + W'.length ≤ i + 1) ∧ Below x w0 wx)
    case first => as_aux_lemma =>
      by_cases hp : 0 < s
      · cases hX : txB s
        · have CF := hide (lfree_no x x v1 v2 H W s wo hT.t hX)
          go_wp2_with fail
          refine (rtx_any _ _).mono ?_
          rintro e w5 ⟨rfl, rfl⟩
          rw [hX]
          go_wp2_with fail
          refine (unhide CF).mono ?_
          rintro e w6 ⟨rfl, hb6⟩
          have hT6 := hT.below hb6
          have hb7 := hbw.trans (hb6.mono hxo)
          clear CF hT hbw hb6 z0
          go_wp2_with fail
          refine (unhide HER1 w6 (unhide HBW w6 hb7)).mono ?_
          rintro e w8 ⟨rfl, hb8⟩
          have hT8 := hT6.below hb8
          have hs6 : x ≤ w6.heap.size := by have := hT6.t.blk.lt; omega
          have hb9 := hb7.trans (hb8.mono hs6)
          have hs8 : x ≤ w8.heap.size := by have := hT8.t.blk.lt; omega
          clear hT6 hb7 hb8
          go_wp2_with fail
          refine (unhide HLN w8).mono ?_
          rintro e w10 ⟨rfl, hb10⟩
          have hT10 := hT8.below hb10
          have hb11 := hb9.trans (hb10.mono hs8)
          clear hT8 hb9 hb10
          go_wp2
          go_meet
          case rel => exact ⟨at_, H, W, v1, v2, u1, u2, by omega, rfl, rfl, hT10, hI, Lib.hid (by omega), hb11⟩
        · have CQ := hide (rfree_any y y u1 u2 H W s wo hT.q (by omega) (by omega) (Nat.le_of_lt hyo))
          have hI6 := free_inv hI s
          have HL6 : Hid ((freeT ⟨H, W⟩ s).H.length + (freeT ⟨H, W⟩ s).W.length ≤ i + 1) := Lib.hid (by have := freeT_len ⟨H, W⟩ s; simp only at this; omega)
          have hol : (freeS ⟨H, W⟩ s).out.length ≤ 1000000000000 := by
            have h1 := freeOut_len ⟨H, W⟩ s
            simp only at h1
            omega
          go_wp2_with fail
          refine (rtx_any _ _).mono ?_
          rintro e w5 ⟨rfl, rfl⟩
          rw [hX]
          go_wp2_with fail
          refine (unhide CQ).mono ?_
          rintro e w6 ⟨vq, u1', u2', rfl, hoq, hq6, hK6, _⟩
          have hT6 := hT.right hq6 hK6
          have hb6 := hbw.trans ((keptQ_below hT.q hK6 (Nat.le_of_lt hyo)).mono (Nat.le_of_lt hT.xy))
          have hs6 : x ≤ w6.heap.size := by have := hT6.t.blk.lt; omega
          have hwo6 : wo.heap.size ≤ w6.heap.size := hK6.1.size
          have CF := hide (lfree_walk x x v1 v2 H W s w6 hT6.t (by omega) (by omega) hs6 hX)
          obtain ⟨Aq, cq, rfl⟩ := own_slice hoq
          have z6 := unhide HZK w6 hb6
          clear CQ hT hbw hq6 hK6 z0
          go_wp2_with fail
          refine (unhide CF).mono ?_
          rintro e w7 ⟨vo, v1', v2', rfl, hoo, ht7, hK7, _⟩
          have hT7 := hT6.left ht7 hK7
          have hb7 := hb6.trans (kept_below hT6.t hK7 hs6)
          have hs7 : x ≤ w7.heap.size := by have := hT7.t.blk.lt; omega
          have hoq7 : w7.ownsRow wo.heap.size 35 3 (.slice Aq (freeS ⟨H, W⟩ s).out.length cq) (freeS ⟨H, W⟩ s).out.length (cellsH (freeS ⟨H, W⟩ s).out) := own_chg hoq hK7.1 (fun k hk e => by
            have h9 := (hoq.lt k hk).1
            rcases e with rfl | e | e
            · have := hT6.xy; omega
            · have := (HVO.out k (.inl e)); omega
            · have := (HVO.out k (.inr e)); omega)
          obtain ⟨Ao, co, rfl⟩ := own_slice hoo
          have hr1 := rd_own hoo
          have hr2 := rd_own hoq7
          have CL := hide (fun w' (hb : Below w7.heap.size w7 w') => lsame_any Ao Aq (freeS ⟨H, W⟩ s).out.length co cq (freeS ⟨H, W⟩ s).out w' ((hr1.below hb).more hb.size) ((hr2.below hb).more hb.size) hol)
          clear CF hT6 hb6 ht7 hK7 hoq hoq7 hoo hr1 hr2 z6
          go_wp2_with fail
          refine (unhide HER0 w7 (unhide HBW w7 hb7)).mono ?_
          rintro e w8 ⟨rfl, hb8⟩
          have hT8 := hT7.below hb8
          have hb9 := hb7.trans (hb8.mono hs7)
          have hs8 : x ≤ w8.heap.size := by have := hT8.t.blk.lt; omega
          have CL8 := hide (unhide CL w8 hb8)
          clear hT7 hb7 hb8 CL
          go_wp2_with fail
          refine (unhide CL8).mono ?_
          rintro e w10 ⟨rfl, hb10⟩
          have hT10 := hT8.below hb10
          have hb11 := hb9.trans (hb10.mono hs8)
          clear hT8 hb9 hb10 CL8
          go_wp2
          go_meet
          case rel => exact ⟨at_, _, _, v1', v2', u1', u2', by omega, rfl, rfl, hT10, hI6, HL6, hb11⟩
      · have hcs : ∃ (o : HOp) (at' : Nat), at' ≤ i + 1 ∧ ((at_ < n ∧ at' = at_ + 1 ∧ l[at_]? = some o) ∨ (¬ at_ < n ∧ at' = at_ ∧ o = ⟨0, 0, 0⟩)) := by
          by_cases ha : at_ < n
          · obtain ⟨b', off', o, he, hb', ho, y0, y1, y2⟩ := (unhide HRL wo (unhide HBW wo hbw)).op (k := at_) ha
            exact ⟨o, at_ + 1, by omega, .inl ⟨ha, rfl, ho⟩⟩
          · exact ⟨⟨0, 0, 0⟩, at_, by omega, .inr ⟨ha, rfl, rfl⟩⟩
        obtain ⟨o, at', hat', hcs⟩ := hcs
        have hoN : Below wo.heap.size wo (wo.alloc (.cells #[.int .i64 0, .int .i64 0, .int .i64 0] 35)) := (Below.refl _ _).alloc (Nat.le_refl _) _
        have hTN := hT.below hoN
        have hbN := hbw.trans (hoN.mono hxo)
        have hBN := Blk.new wo 35 [.int .i64 0, .int .i64 0, .int .i64 0]
        have hzN : (wo.alloc (.cells #[.int .i64 0, .int .i64 0, .int .i64 0] 35)).heap.size = wo.heap.size + 1 := by simp
        have HZN := Lib.hid hzN
        go_upto_if 79 with fail
        go_cut [9] (fun s9 wx => s9 = .int .i64 at' ∧ Blk wx wo.heap.size 35 [.int .i64 o.tx, .int .i64 o.what, .int .i64 o.item] ∧ Below wo.heap.size wo wx)
        case first =>
          rcases hcs with ⟨ha, rfl, ho⟩ | ⟨ha, rfl, rfl⟩
          · obtain ⟨b', off', o', he, hb', ho', y0, y1, y2⟩ := (unhide HRL _ (unhide HBW _ hbN)).op (k := at_) ha
            cases he
            obtain rfl : o' = o := Option.some.inj (ho'.symm.trans ho)
            obtain ⟨o1, o2, o3⟩ := o'
            simp only at y0 y1 y2 ⊢
            have f0 := hBN.frozen 0
            have f1 := hBN.frozen 1
            have f2 := hBN.frozen 2
            obtain ⟨g0, g1, g2⟩ := ocells' hBN
            clear ho ho'
            go_wp2
            go_meet
            case rel => exact ⟨by go_num, Blk.new wo 35 [.int .i64 o1, .int .i64 o2, .int .i64 o3], (Below.refl _ _).alloc (Nat.le_refl _) _⟩
          · go_wp2
            go_meet
            case rel => exact ⟨rfl, hBN, hoN⟩
        case rest =>
          obtain ⟨rfl, hBo, hbo⟩ := hcut
          have hToN := hT.below hbo
          have hbM := hbw.trans (hbo.mono hxo)
          obtain ⟨wm, rfl⟩ : ∃ wm : World, wm = wc := ⟨_, rfl⟩
          have hwm : wo.heap.size < wm.heap.size := hBo.lt
          clear hcs hTN hbN hBN hzN HZN hoN hbo hT hbw z0
          obtain ⟨q0, q1, q2⟩ := ocells' hBo
          have hxm : x ≤ wm.heap.size := by omega
          have CQ := hide (rask_any y y u1 u2 H W o wm hToN.q (by omega) (by omega) (by omega))
          have hI6 := ask_inv hI o
          have HL6 : Hid ((askF ⟨H, W⟩ o).2.2.H.length + (askF ⟨H, W⟩ o).2.2.W.length ≤ i + 1) := Lib.hid (by have := askF_len ⟨H, W⟩ o; simp only at this; omega)
          have hap := hI.apart
          have CP := hide (fun w6 (a1 a2 : Value) (H2 W2 : List HOp) (hT6 : Two w6 x y v1 v2 a1 a2 H W H2 W2) (hx6 : x ≤ w6.heap.size) => ask_any x x v1 v2 H W o w6 hT6.t (by omega) (by omega) hx6 hap)
          unfold AskPostQ at CQ
          obtain ⟨o1, o2, o3⟩ := o
          simp only at q0 q1 q2
          unfold HOp.val at CQ CP
          go_wp2_with fail
          refine (unhide CQ).mono ?_
          rintro e w6 ⟨u1', u2', rfl, hq6, hK6⟩
          have hT6 := hToN.right hq6 hK6.q
          have hb6 := hbM.trans ((keptQ_below hToN.q hK6.q (by omega)).mono (Nat.le_of_lt hToN.xy))
          have hs6 : x ≤ w6.heap.size := by have := hT6.t.blk.lt; omega
          have hBo6 := hBo.chg hK6.1 (fun e => by
            rcases e with e | e | e
            · omega
            · exact absurd (HUO.out _ (.inl e)) (Nat.lt_irrefl _)
            · exact absurd (HUO.out _ (.inr e)) (Nat.lt_irrefl _))
          obtain ⟨q0, q1, q2⟩ := ocells' hBo6
          have CP6 := hide (unhide CP w6 _ _ _ _ hT6 hs6)
          clear CQ CP hToN hbM hq6 hK6
          generalize askF ⟨H, W⟩ ⟨o1, o2, o3⟩ = af at *
          go_wp2_with fail
          refine (unhide CP6).mono ?_
          rintro e w7 ⟨v1', v2', rfl, ht7, hK7⟩
          have hT7 := hT6.left ht7 hK7
          have hb7 := hb6.trans (kept_below hT6.t hK7 hs6)
          have hs7 : x ≤ w7.heap.size := by have := hT7.t.blk.lt; omega
          have CE := hide (unhide HE w7 (unhide HBW w7 hb7) af.2.1)
          clear CP6 hT6 hb6 ht7 hK7 q0 q1 q2
          go_wp2_with fail
          refine (unhide CE).mono ?_
          rintro e w8 ⟨rfl, hb8⟩
          have hT8 := hT7.below hb8
          have hb9 := hb7.trans (hb8.mono hs7)
          clear hT7 hb7 hb8 CE
          go_wp2
          go_meet
          case rel => exact ⟨at', _, _, v1', v2', u1', u2', hat', rfl, by simp, hT8, hI6, HL6, hb9⟩
    case rest => as_aux_lemma =>
      obtain ⟨at', H', W', v1', v2', u1', u2', hat', rfl, rfl, hT', hI', HLN', hbw'⟩ := hcut
      clear hT hI HLN9 hbw hln z0 HZK HVO HUO
      have hln := HLN'.out
      obtain ⟨wy, rfl⟩ : ∃ wy : World, wy = wc := ⟨_, rfl⟩
      obtain ⟨m0, m1, m2⟩ := ocells' (unhide HBX wy hbw')
      have hsy : x ≤ wy.heap.size := by have := hT'.t.blk.lt; omega
      obtain ⟨F, hF⟩ : ∃ F, forLL H' W' ⟨l1, l2, l3⟩ = F := ⟨_, rfl⟩
      obtain ⟨nF, hnF⟩ : ∃ nF, F.length = nF := ⟨_, rfl⟩
      have HF9 := Lib.hid hF
      have HNF := Lib.hid hnF
      have hnF9 : nF ≤ 1000 := by
        have h1 := forLL_len H' W' ⟨l1, l2, l3⟩
        rw [hF, hnF] at h1
        omega
      have CQ := hide (fun w3 (hb : Below wy.heap.size wy w3) => unhide CQX y u1' u2' H' W' w3 (hT'.q.below hb) (by omega) (by omega))
      have CP := hide (fun w3 (T : Tab w3 x x v1' v2' H' W') => unhide CPX x v1' v2' H' W' w3 T (by omega) (by omega))
      rw [hF, hnF] at CP
      clear hF hnF
      clear CQX CPX
      go_wp2_with fail
      refine (unhide CRX wy).mono ?_
      rintro e w3 ⟨rfl, hb3⟩
      have hT3 := hT'.below hb3
      have hbw3 := hbw'.trans (hb3.mono hsy)
      have CQ3 := hide (unhide CQ w3 hb3)
      obtain ⟨m0, m1, m2⟩ := ocells' (unhide HBX w3 hbw3)
      have hs3 : x ≤ w3.heap.size := by have := hT3.t.blk.lt; omega
      clear hT' hbw' hb3 CRX CQ
      go_upto_if 109 with fail
      go_cut [22, 23] (fun s22 s23 wx => ∃ (A23 : Option Addr) (c23 : Nat), s22 = .int .i64 fe ∧ s23 = .slice A23 nF c23 ∧ wx.ownsRow w3.heap.size 3 1 (.slice A23 nF c23) nF (cellsI F) ∧ Two wx x y v1' v2' u1' u2' H' W' H' W' ∧ Below x w0 wx)
      case first => as_aux_lemma =>
        cases rx
        · obtain ⟨e1, e2⟩ := HRE.out.2 rfl
          subst e1
          have e3 := HF9.out
          rw [e2] at e3
          subst e3
          have e4 := HNF.out
          simp only [List.length_nil] at e4
          subst e4
          clear e2
          go_wp2
          go_meet
          case rel => exact ⟨none, 0, rfl, rfl, World.ownsRow_nil _ _ _ _, hT3, hbw3⟩
        · obtain ⟨e1, e2⟩ := HRE.out.1 rfl
          have e3 := HF9.out
          rw [e2] at e3
          rw [e3, HNF.out] at CQ3
          subst e1
          clear e2 e3
          go_wp2_with fail
          refine (unhide CQ3).mono ?_
          rintro e w4 ⟨v4, rfl, ho4, hb4⟩
          obtain ⟨A4, c4, rfl⟩ := own_slice ho4
          have hT4 := hT3.below hb4
          have hbw4 := hbw3.trans (hb4.mono hs3)
          clear m0 m1 m2 hT3 hbw3 CQ3 hb4
          go_wp2
          go_meet
          case rel => exact ⟨A4, c4, rfl, rfl, ho4, hT4, hbw4⟩
      case rest => as_aux_lemma =>
        obtain ⟨A23, c23, rfl, rfl, ho23, hT4, hbw4⟩ := hcut
        obtain ⟨w4, rfl⟩ : ∃ w4 : World, w4 = wc := ⟨_, rfl⟩
        clear m0 m1 m2 hT3 hbw3 CQ3 HRE
        obtain ⟨m0, m1, m2⟩ := ocells' (unhide HBX w4 hbw4)
        have CP4 := hide (unhide CP w4 hT4.t)
        have hs4 : x ≤ w4.heap.size := by have := hT4.t.blk.lt; omega
        have hr23 := rd_own ho23
        clear CP ho23
        go_wp2_with fail
        refine (unhide CP4).mono ?_
        rintro e w5 ⟨v5, rfl, ho5, hb5⟩
        obtain ⟨A5, c5, rfl⟩ := own_slice ho5
        have hr5 := rd_own ho5
        have hT5 := hT4.below hb5
        have hbw5 := hbw4.trans (hb5.mono hs4)
        have hs5 : x ≤ w5.heap.size := by have := hT5.t.blk.lt; omega
        have CI := hide (fun w' (hb : Below w5.heap.size w5 w') => ints_any A5 A23 nF nF c5 c23 F F w' ((hr5.below hb).more hb.size) (((hr23.below hb5).below (hb.mono hb5.size)).more (Nat.le_trans hb5.size hb.size)) (by omega))
        have CE := hide (unhide HE w5 (unhide HBW w5 hbw5) fe)
        rw [decide_eq_true (rfl : F = F)] at CI
        clear CP4 hT4 hbw4 hb5 ho5 hr5 hr23 m0 m1 m2
        go_wp2_with fail
        refine (unhide CE).mono ?_
        rintro e w6 ⟨rfl, hb6⟩
        have CI6 := hide (unhide CI w6 hb6)
        have hT6 := hT5.below hb6
        have hbw6 := hbw5.trans (hb6.mono hs5)
        have hs6 : x ≤ w6.heap.size := by have := hT6.t.blk.lt; omega
        clear CE CI hT5 hbw5 hb6
        go_wp2_with fail
        refine (unhide CI6).mono ?_
        rintro e w7 ⟨rfl, hb7⟩
        have hT7 := hT6.below hb7
        have hbw7 := hbw6.trans (hb7.mono hs6)
        have hs7 : x ≤ w7.heap.size := by have := hT7.t.blk.lt; omega
        clear CI6 hT6 hbw6 hb7
        obtain ⟨U1, d1, rfl⟩ := own_slice hT7.q.held
        obtain ⟨U2, d2, rfl⟩ := own_slice hT7.q.waits
        obtain ⟨nh, hnh⟩ : ∃ nh, H'.length = nh := ⟨_, rfl⟩
        obtain ⟨nw, hnw⟩ : ∃ nw, W'.length = nw := ⟨_, rfl⟩
        have hoh := hT7.q.held
        have how := hT7.q.waits
        have hbq := hT7.q.blk
        rw [hnh] at hoh
        rw [hnw] at how
        rw [hnh, hnw] at hbq
        have hrh := rd_own hoh
        have hrw := rd_own how
        have hnh9 : nh ≤ 1000 := by omega
        have hnw9 : nw ≤ 1000 := by omega
        have CHD := hide (fun w' (hb : Below w7.heap.size w7 w') => held_any x x v1' v2' H' W' w' (hT7.t.below hb) (by omega))
        have CWD := hide (fun w' (hb : Below w7.heap.size w7 w') => waits_any x x v1' v2' H' W' w' (hT7.t.below hb) (by omega))
        rw [hnh] at CHD
        rw [hnw] at CWD
        have CLH := hide (fun w' (hb : Below w7.heap.size w7 w') (Ah : Option Addr) (ch : Nat) (hr : Rd w' w'.heap.size 3 Ah nh (cellsH H')) => lsame_any Ah U1 nh ch d1 H' w' hr ((hrh.below hb).more hb.size) (by omega))
        have CLW := hide (fun w' (hb : Below w7.heap.size w7 w') (Ah : Option Addr) (ch : Nat) (hr : Rd w' w'.heap.size 3 Ah nw (cellsH W')) => lsame_any Ah U2 nw ch d2 W' w' hr ((hrw.below hb).more hb.size) (by omega))
        have hy0 := hbq.cellS (i := 0) (v := .slice U1 nh d1) rfl
        have hy1 := hbq.cellS (i := 1) (v := .slice U2 nw d2) rfl
        have hyl := hbq.lt
        have KEEP := hide (fun (w' : World) (hb : Below w7.heap.size w7 w') => show w'.cell? ⟨y, 0, none⟩ = some (.slice U1 nh d1) ∧ w'.cell? ⟨y, 1, none⟩ = some (.slice U2 nw d2) from ⟨(hb.cell (p := ⟨y, 0, none⟩) hyl).trans hy0, (hb.cell (p := ⟨y, 1, none⟩) hyl).trans hy1⟩)
        have hd0 : Below w7.heap.size w7 w7.drew := (Below.refl _ _).drew
        have hc4 : w7.drew.cell? ⟨y, 0, none⟩ = some (.slice U1 nh d1) ∧ w7.drew.cell? ⟨y, 1, none⟩ = some (.slice U2 nw d2) := ⟨hy0, hy1⟩
        have HT7 := hide (fun w' (hb : Below w7.heap.size w7 w') => And.intro (hT7.below hb) (hbw7.trans (hb.mono hs7)))
        have HII := Lib.hid hI'
        clear hoh how hbq hrh hrw hT7 hbw7 hI' hnh hnw hy0 hy1
        go_wp2_with fail
        go_region_held3 (fun w' => w'.cell? ⟨y, 0, none⟩ = some (.slice U1 nh d1) ∧ w'.cell? ⟨y, 1, none⟩ = some (.slice U2 nw d2)) (first | exact hc4 | exact hc8 | exact hc9 | exact hc10 | exact hc11 | go_keep)
          (first
            | (go_at_call 20; refine (unhide CHD _ hd0).mono ?_; rintro e w8 ⟨vh, rfl, ho8, hb8⟩; obtain ⟨Ah, ch, rfl⟩ := own_slice ho8; have hd8 := hd0.trans (hb8.mono hd0.size); have hc8 := unhide KEEP _ hd8; have CL1 := hide (unhide CLH w8 hd8 Ah ch (rd_own ho8)))
            | (go_at_call 13; with_reducible refine (unhide CL1).mono ?_; rintro e w9 ⟨rfl, hb9⟩; have hd9 := hd8.trans (hb9.mono hd8.size); have hc9 := unhide KEEP _ hd9)
            | (go_at_call 21; refine (unhide CWD _ hd9).mono ?_; rintro e w10 ⟨vw, rfl, ho10, hb10⟩; obtain ⟨Aw, cw, rfl⟩ := own_slice ho10; have hd10 := hd9.trans (hb10.mono hd9.size); have hc10 := unhide KEEP _ hd10; have CL2 := hide (unhide CLW w10 hd10 Aw cw (rd_own ho10)))
            | (go_at_call 13; with_reducible refine (unhide CL2).mono ?_; rintro e w11 ⟨rfl, hb11⟩; have hd11 := hd10.trans (hb11.mono hd10.size); have hc11 := unhide KEEP _ hd11))
        obtain ⟨hTE, hBE⟩ := unhide HT7 _ hd11
        go_wp2
        go_roundw
        case rel => exact ⟨i + 1, at', H', W', v1', v2', _, _, by omega, hat', by go_num, rfl, hTE, HII.out, HLN', hBE⟩
        case measure => simp [intOf]; omega
theorem bytes_ints : Tryd.prog.bytesOf 3 = 8 := by kernel_rfl
theorem bytes_locks : Tryd.prog.bytesOf 35 = 24 := by kernel_rfl

/-! ### The row. -/
set_option maxRecDepth 100000 in
theorem lifted (os : Os) (started : os.Started) (H : Type) (enc : TypeId × Value → H) :
    ReturnsInHanded {} Tryd.checked os 4 .any (fun w args => (Rows.locksPlaySpec.pre enc Tryd.prog Tryd.f4 [] false w args ∧ laidMetH Tryd.prog dLaid w) ∧ sizedMet enc Tryd.prog Tryd.f4 (OpenSpec.ofChange Rows.locksPlaySpec) false w args) (Rows.locksPlaySpec.post enc Tryd.prog Tryd.f4 false true false false) := by
  refine returnsInHanded_of_change_and (C := Tryd.checked) (X := fun w _ => laidMetH Tryd.prog dLaid w) (fun _ _ _ hh h => h.of_heap hh) dOwn started (by kernel_rfl) Tryd.func4
    (ChangeSpec.witness_at (enc := enc) (C := Tryd.checked) (os := os) (X := fun w _ => laidMetH Tryd.prog dLaid w) false (laidWorld os) #[.slice none 0 0, .slice none 0 0, .agg #[.int .i64 0, .int .i64 0, .int .i64 0]] 8 rfl (by kernel_rfl) (by kernel_rfl) (by kernel_rfl) (by kernel_rfl) (by kernel_rfl) (laidWorld_met os _)) ?_
  intro W base args ds gs before hval0 hW hcnd hsz0 hL _
  have hval : ∀ (j : Nat) t v, Tryd.f4.params[j]? = some t → args[j]? = some v → Value.okWide Tryd.prog W .any base t v := hval0
  have hW' := hW
  obtain ⟨p, q, hA0, hV, rfl, hfz, hnd⟩ := hW
  have hA : DataW.TrodAll enc Tryd.prog W 0 (fun _ => true) true Tryd.f4.params.toList args.toList ds p := hA0
  have hsz : (DataW.weightsEach Tryd.prog (Tryd.f4.params.toList ++ Rows.locksPlaySpec.plain.varTypes Tryd.prog) (ds ++ gs)).all (· ≤ reachBytes) = true := hsz0
  rw [Tryd.params4] at hA hval hsz
  obtain ⟨v0, vs0, d0, ds0, p0, q0, hargs, rfl, rfl, h0, r0⟩ := trodAll_cons hA
  obtain ⟨v1, vs1, d1, ds1, p1, q1, rfl, rfl, rfl, h1, r1⟩ := trodAll_cons r0
  obtain ⟨v2, vs2, d2, ds2, p2, q2, rfl, rfl, rfl, h2, r2⟩ := trodAll_cons r1
  obtain ⟨rfl, rfl, rfl⟩ := trodAll_nil r2
  obtain rfl : args = #[v0, v1, v2] := by cases args; simp_all
  obtain ⟨rfl, rfl⟩ := trodVars_none hV
  simp only [List.append_nil] at hW'
  have hk0 := h0
  have hlt0 : ∀ x ∈ p0, x.block < W.heap.size := fun x hx => hW'.lt x (by simp [hx])
  obtain ⟨A0, n0, c0, l0, rfl, rd0, bd0⟩ := open_ops Tryd.underlying33 Tryd.underlying35 Tryd.underlying3 rfl rfl rfl (by kernel_rfl) (by kernel_rfl) (hval 0 33 v0 rfl rfl) h0 (fun e s he => by have := sized_slice hsz (j := 0) (t := 33) (e := 35) rfl (congrArg some he) Tryd.underlying33; rwa [bytes_locks] at this)
  have hk1 := h1
  have hlt1 : ∀ x ∈ p1, x.block < W.heap.size := fun x hx => hW'.lt x (by simp [hx])
  obtain ⟨A1, n1, c1, l1, rfl, rd1, bd1⟩ := open_is Tryd.underlying23 Tryd.underlying3 (by kernel_rfl) (hval 1 23 v1 rfl rfl) h1 (fun e s he => by have := sized_slice hsz (j := 1) (t := 23) (e := 3) rfl (congrArg some he) Tryd.underlying23; rwa [bytes_ints] at this)
  have hk2 := h2
  have hlt2 : ∀ x ∈ p2, x.block < W.heap.size := fun x hx => hW'.lt x (by simp [hx])
  obtain ⟨o2, rfl⟩ := open_op Tryd.underlying35 Tryd.underlying3 rfl rfl rfl (by kernel_rfl) (by kernel_rfl) (hval 2 35 v2 rfl rfl) h2
  clear hA0 hval0
  refine (walk A0 n0 c0 l0 A1 n1 c1 l1 o2 W (et_of_laid hL) rd0 bd0 rd1 bd1).mono fun e W' ⟨he, hg⟩ => ?_
  subst he
  exact ⟨_, rfl, post_slices (pa := _) (pv := []) hW' hg (by simp) (fun _ _ _ => (trodAll_cons_mk (shut_bool Tryd.underlying4 _) trodAll_mk0)) (trodAll_cons_mk (Below.trod laidOut (by kernel_rfl) (of_decide_eq_true (by kernel_rfl)) hk0 hg hlt0) (trodAll_cons_mk (Below.trod laidOut (by kernel_rfl) (of_decide_eq_true (by kernel_rfl)) hk1 hg hlt1) (trodAll_cons_mk (Below.trod laidOut (by kernel_rfl) (of_decide_eq_true (by kernel_rfl)) hk2 hg hlt2) trodAll_mk0))) rfl⟩

theorem over : Rows.LocksPlaySaid :=
  OpenClaim.holds_of_wide 4 Tryd.f4 rfl rfl rfl rfl rfl rfl rfl ⟨rfl, rfl, rfl, rfl, rfl⟩ rfl rfl rfl rfl rfl (by kernel_rfl) Tryd.func4 (by kernel_rfl)
    (of_decide_eq_true (by kernel_rfl)) (by unfold Func.isWrapper; first | (rw [if_pos (by decide +kernel)]; kernel_rfl) | (rw [if_neg (by decide +kernel)]; exact ⟨rfl, rfl⟩))
    (fun os started H enc _ => lifted os started H enc)

/-- The statement: the tied card. -/
theorem proved : Rows.LocksPlayCardSaid :=
  Claim7.holds_tied_plain_at .later [] [.handle] true _ true
    over (fun _ h => by cases h) (by kernel_rfl) (fun _ h => by cases h) locksPlay_row_tie rfl ⟨rfl, rfl⟩ (by kernel_rfl) rfl
    (fun f fn hf hfn => by
      obtain rfl : f = 4 := Option.some.inj ((show Tryd.prog.funcNamed "locklane/lanelaw1.LocksPlay" = some 4 by kernel_rfl).symm.trans hf) |>.symm
      obtain rfl : fn = Tryd.f4 := (Option.some.inj (Tryd.func4.symm.trans hfn)).symm
      exact ⟨by kernel_rfl, fun j t ht => by
        rw [Tryd.params4] at ht
        have hm : t ∈ [33, 23, 35] := by have := Array.mem_of_getElem? ht; simpa using this
        have hall : ([33, 23, 35].all fun u => !Tryd.prog.wantsStandIn u) = true := by kernel_rfl
        exact (show Tryd.prog.wantsStandIn t = false by simpa using List.all_eq_true.1 hall t hm)⟩)
    (by kernel_rfl)
#print axioms proved
end Go.Proofs.YtfmdeahblaikoaaDoor.locksPlay
