
/-
  CONTRACTS of slices.Equal at numbers, history.DealsOf, serial.Along.
  CONTRACT of serial.Serial: the ops of what is done along an order, or the fault.
  CONTRACT of odds.names: each op's name (a map counts the ops of each deal).
  SETS: maps from keys of a kind (read by the kit's KeyLaw) to Bools, that the call itself makes: look-up and store.
-/
import Derived.Test.YtmehghkpghbpjaaGreatQ26
import Derived.Test.YtmehghkpghbpjaaGreatQ37
import Derived.Test.YtmehghkpghbpjaaGreatQ31
import Derived.Test.YtmehghkpghbpjaaGreatQ3
import Derived.Test.YtmehghkpghbpjaaGreatQ7
import Derived.Test.YtmehghkpghbpjaaGreatQ1
import Derived.Test.YtmehghkpghbpjaaGreatQ0
import Derived.Maps.OwnOps
import Derived.DeepKeys4

namespace Go.Proofs.YtmehghkpghbpjaaGreat
open Go.RowKit Go.Shelf

set_option maxHeartbeats 1000000 in
theorem equalI_any (A B : Option Addr) (n m c d : Nat) (xs ys : List Int) (w : World) (ha : Rd w w.heap.size 1 A n (cellsI xs)) (hb : Rd w w.heap.size 1 B m (cellsI ys)) (hm : n ≤ 17592186043904) :
    Calls Tryz.prog 30 #[.slice A n c, .slice B m d] w fun e w' => e = .returned (.bool (decide (xs = ys))) ∧ Below w.heap.size w w' := by
  have hl1 := ha.ilen
  have hl2 := hb.ilen
  by_cases hnm : n = m
  · have hnm2 : ((n : Int) != (m : Int)) = false := by simp [hnm]
    have HN := Lib.hid hnm
    have HL := Lib.hid (And.intro hl1 hl2)
    have hle : n ≤ m := by omega
    clear hnm hl1 hl2
    go_enter Tryz.func30, Tryz.ntmps30
    go_wp2
    clear hnm2
    go_loopw [13] (fun i wr => ∃ k : Nat, k ≤ n ∧ i = .int .i64 k ∧ Hid (xs.take k = ys.take k) ∧ Below w.heap.size w wr) (fun i _ => n - (intOf i).toNat)
    case atStart => exact ⟨0, Nat.zero_le _, rfl, rfl, Below.refl _ _⟩
    case round =>
      obtain ⟨k, hk, rfl, HE, hbw⟩ := hrel
      by_cases hlt : k < n
      · obtain ⟨b1, o1, x, he, _, hx, c1⟩ := (ha.below hbw).int (k := k) (by omega)
        cases he
        obtain ⟨b2, o2, y, he, _, hy, c2⟩ := (hb.below hbw).int (k := k) (by omega)
        cases he
        have HT := Lib.hid (take_same HE.out hx hy)
        clear hx hy
        have hlm : k < m := by omega
        by_cases hxy : x = y
        · have HE2 := Lib.hid (HT.out.1 hxy)
          subst hxy
          go_wp2
          go_quiet (fail)
          go_wp2
          go_roundw
          case rel => exact ⟨k + 1, by omega, by go_num, HE2, below_drewN hbw _⟩
          case measure => simp [intOf]; omega
        · have HE2 : Hid (decide (xs = ys) = false) := Lib.hid (decide_eq_false (HT.out.2 hxy))
          have hxy2 : (x != y) = true := by simp [hxy]
          go_wp2
          go_quiet (fail)
          go_wp2
          go_ret
          exact ⟨ret_bool HE2.out.symm, below_drewN hbw _⟩
      · have HE2 : Hid (decide (xs = ys) = true) := Lib.hid (decide_eq_true (by
          have := HE.out
          rwa [List.take_of_length_le (by rw [HL.out.1]; omega), List.take_of_length_le (by rw [HL.out.2, ← HN.out]; omega)] at this))
        go_wp2
        go_ret
        exact ⟨ret_bool HE2.out.symm, hbw⟩
  · have HE2 : Hid (decide (xs = ys) = false) := Lib.hid (decide_eq_false (by rintro rfl; omega))
    have hnm2 : ((n : Int) != (m : Int)) = true := by simp; omega
    go_enter Tryz.func30, Tryz.ntmps30
    go_wp2
    go_ret
    exact ⟨ret_bool HE2.out.symm, Below.refl _ _⟩

/-! ### Deals. -/
def uniqL (acc : List Int) : List HOp → List Int
  | [] => acc
  | o :: t => uniqL (if o.tx ∈ acc then acc else acc ++ [o.tx]) t
theorem uniqL_step {acc : List Int} {o : HOp} {l t : List HOp} (e : l = o :: t) : uniqL acc l = uniqL (if o.tx ∈ acc then acc else acc ++ [o.tx]) t := by rw [e, uniqL]
theorem uniqL_nodup : ∀ {l : List HOp} {acc : List Int}, acc.Nodup → (uniqL acc l).Nodup
  | [], _, h => h
  | o :: t, acc, h => by
    rw [uniqL]
    refine uniqL_nodup ?_
    split
    · exact h
    · rename_i hn
      exact List.nodup_append.2 ⟨h, by simp, fun x hx y hy hxy => hn (by rw [List.mem_singleton] at hy; rw [← hy, ← hxy]; exact hx)⟩
theorem mem_uniqL {x : Int} : ∀ {l : List HOp} {acc : List Int}, x ∈ uniqL acc l ↔ x ∈ acc ∨ ∃ o ∈ l, o.tx = x
  | [], acc => by simp [uniqL]
  | o :: t, acc => by
    rw [uniqL, mem_uniqL]
    split
    · rename_i hm
      constructor
      · rintro (h | ⟨y, h1, h2⟩)
        · exact .inl h
        · exact .inr ⟨y, List.mem_cons_of_mem _ h1, h2⟩
      · rintro (h | ⟨y, h1, h2⟩)
        · exact .inl h
        · rcases List.mem_cons.1 h1 with e | e
          · exact .inl (by rw [← h2, e]; exact hm)
          · exact .inr ⟨y, e, h2⟩
    · constructor
      · rintro (h | ⟨y, h1, h2⟩)
        · rcases List.mem_append.1 h with h | h
          · exact .inl h
          · exact .inr ⟨o, List.mem_cons_self, (List.mem_singleton.1 h).symm⟩
        · exact .inr ⟨y, List.mem_cons_of_mem _ h1, h2⟩
      · rintro (h | ⟨y, h1, h2⟩)
        · exact .inl (List.mem_append_left _ h)
        · rcases List.mem_cons.1 h1 with e | e
          · exact .inl (List.mem_append_right _ (by rw [← h2, e]; exact List.mem_singleton.2 rfl))
          · exact .inr ⟨y, e, h2⟩
theorem sort_uniq (h : List HOp) : sortI (uniqL [] h) = dealsL h := by
  unfold dealsL
  refine sortS_eq sloI ?_ fun x => ?_
  · have h1 := sortI_up (uniqL [] h)
    have h2 : (sortI (uniqL [] h)).Nodup := (List.mergeSort_perm _ _).nodup_iff.2 (uniqL_nodup List.nodup_nil)
    have h3 := h1.and h2
    exact h3.imp fun {a b} ⟨g1, g2⟩ => by simp [ltI] at g1 ⊢; omega
  · rw [sortI_mem, mem_uniqL, List.mem_map]
    simp
set_option maxRecDepth 100000 in
set_option maxHeartbeats 4000000 in
theorem dealsOf_any (A : Option Addr) (n cap : Nat) (h : List HOp) (w : World) (hr : Rd w w.heap.size 3 A n (cellsH h)) (hm : n ≤ 1000000) :
    Calls Tryz.prog 33 #[.slice A n cap] w fun e w' => ∃ v m, e = .returned v ∧ w'.ownsRow w.heap.size 3 1 v m (cellsI (dealsL h)) ∧ m ≤ n ∧ Below w.heap.size w w' := by
  have HL := Lib.hid hr.hlen
  have HD := Lib.hid (sort_uniq h)
  generalize dealsL h = R at *
  go_enter Tryz.func33, Tryz.ntmps33
  go_wp2
  go_loopw [3, 8] (fun s3 s8 wr => ∃ (k m : Nat) (acc : List Int), k ≤ n ∧ m ≤ k ∧ s8 = .int .i64 k ∧ wr.ownsRow w.heap.size 3 1 s3 m (cellsI acc) ∧ Hid (uniqL [] h = uniqL acc (h.drop k)) ∧ Below w.heap.size w wr) (fun _ s8 _ => n - (intOf s8).toNat)
  case atStart => exact ⟨0, 0, [], Nat.zero_le _, Nat.le_refl _, rfl, World.ownsRow_nil _ _ _ _, rfl, Below.refl _ _⟩
  case round =>
    obtain ⟨k, m, acc, hk, hmk, rfl, ho3, HE, hbw⟩ := hrel
    obtain ⟨A3, c3, rfl⟩ := own_slice ho3
    by_cases hlt : k < n
    · obtain ⟨b, off, o, he, hb, ho, c0, c1, c2⟩ := (hr.below hbw).op (k := k) (by omega)
      cases he
      have HS := Lib.hid (HE.out.trans (uniqL_step (drop_at ho)))
      clear ho HE
      obtain ⟨o1, o2, o3⟩ := o
      simp only at c0 c1 c2 HS
      have hz := hbw.size
      have hb4 : Below w.heap.size w (wr.alloc (.cells #[.int .i64 o1, .int .i64 o2, .int .i64 o3] 54)) := hbw.alloc hz _
      have ho4 := own_alloc ho3 (.cells #[.int .i64 o1, .int .i64 o2, .int .i64 o3] 54)
      have C := hide (icontains_rd A3 m c3 acc o1 (wr.alloc (.cells #[.int .i64 o1, .int .i64 o2, .int .i64 o3] 54)) _ (rd_own ho4) (by omega))
      by_cases hin : o1 ∈ acc
      · have HS2 : Hid (uniqL [] h = uniqL acc (h.drop (k + 1))) := Lib.hid (by rw [HS.out, if_pos hin])
        rw [decide_eq_true hin] at C
        clear hin HS ho3
        go_wp2_with fail
        refine (unhide C).mono ?_
        rintro e w' ⟨rfl, rfl⟩
        go_wp2
        go_roundw
        case rel => exact ⟨k + 1, m, acc, by omega, by omega, by go_num, ho4, HS2, hb4⟩
        case measure => simp [intOf]; omega
      · have HS2 : Hid (uniqL [] h = uniqL (acc ++ [o1]) (h.drop (k + 1))) := Lib.hid (by rw [HS.out, if_neg hin])
        rw [decide_eq_false hin] at C
        clear hin HS ho3
        go_wp2_with fail
        refine (unhide C).mono ?_
        rintro e w' ⟨rfl, rfl⟩
        go_wp2_with (at_builtin; refine wpList_app rfl (.tmp 17) (.tmp 20) _ rfl w.heap.size slt_ints (n := m) (xs := cellsI acc) (m := 1) (news := cellsI [o1]) rfl (own_alloc ho4 _) rfl (rd_new' _ _ (cellsI [o1]) (by simp) rfl) (oneI _) (by omega) (by simp; omega) ?_; intro v5 w5 hown5 hg5 hb5 hat5 hne5)
        have hb6 := (hb4.alloc hb4.size (.cells (cellsI [o1]).toArray 3)).trans hb5
        have e1 : cellsI acc ++ cellsI [o1] = cellsI (acc ++ [o1]) := by simp [cellsI]
        rw [e1] at hown5
        clear e1
        go_roundw
        case rel => exact ⟨k + 1, m + 1, acc ++ [o1], by omega, by omega, by go_num, hown5, HS2, hb6⟩
        case measure => simp [intOf]; omega
    · have HU : Hid (acc = uniqL [] h) := Lib.hid (by rw [HE.out, drop_end (by rw [HL.out]; omega)]; rfl)
      rw [HU.out] at ho3
      have CS := hide (isort_own ho3 hbw.size (by omega))
      clear ho3 HE
      go_wp2_with fail
      refine (unhide CS).mono ?_
      rintro e w4 ⟨rfl, ho4, _, hb4⟩
      rw [HD.out] at ho4
      go_wp2
      go_ret
      exact ⟨_, _, rfl, ho4, by omega, hbw.trans hb4⟩

/-! ### Along an order. -/
theorem alongL_snoc (D : List HOp) {o : List Int} {k : Nat} {x : Int} (h : o[k]? = some x) : alongL D (o.take (k + 1)) = alongL D (o.take k) ++ ownL D x := by
  rw [List.take_add_one, h, alongL_append]
  simp [alongL]
set_option maxRecDepth 100000 in
set_option maxHeartbeats 4000000 in
theorem along_any (A B : Option Addr) (n m c d : Nat) (h : List HOp) (o : List Int) (w : World) (hr : Rd w w.heap.size 3 A n (cellsH h)) (ho : Rd w w.heap.size 1 B m (cellsI o)) (hn : n ≤ 1000) (hm : m ≤ 1000) :
    Calls Tryz.prog 34 #[.slice A n c, .slice B m d] w fun e w' => ∃ v q, e = .returned v ∧ w'.ownsRow w.heap.size 54 3 v q (cellsH (alongL h o)) ∧ q ≤ m * n ∧ Below w.heap.size w w' := by
  have HL := Lib.hid ho.ilen
  have CO := hide (fun t w1 (hb : Below w.heap.size w w1) => own_any A n c h t w1 ((hr.below hb).more hb.size) (by omega))
  go_enter Tryz.func34, Tryz.ntmps34
  go_wp2
  go_loopw [5, 10] (fun s5 s10 wr => ∃ k q : Nat, k ≤ m ∧ q ≤ k * n ∧ s10 = .int .i64 k ∧ wr.ownsRow w.heap.size 54 3 s5 q (cellsH (alongL h (o.take k))) ∧ Below w.heap.size w wr) (fun _ s10 _ => m - (intOf s10).toNat)
  case atStart => exact ⟨0, 0, Nat.zero_le _, Nat.zero_le _, rfl, World.ownsRow_nil _ _ _ _, Below.refl _ _⟩
  case round =>
    obtain ⟨k, q, hk, hq, rfl, ho5, hbw⟩ := hrel
    obtain ⟨A5, c5, rfl⟩ := own_slice ho5
    by_cases hlt : k < m
    · obtain ⟨b, off, x, he, hb, hx, c0⟩ := (ho.below hbw).int (k := k) hlt
      cases he
      have HS := Lib.hid (alongL_snoc h hx)
      have C1 := hide (unhide CO x wr hbw)
      have hz := hbw.size
      clear hx
      have hkn : k * n ≤ 1000 * 1000 := Nat.mul_le_mul (by omega) hn
      have hk1 : (k + 1) * n = k * n + n := Nat.succ_mul k n
      go_wp2_with fail
      refine (unhide C1).mono ?_
      rintro e w2 ⟨A2, m2, c2, rfl, ho2, hb2⟩
      have hm2 : m2 ≤ n := by
        have h1 := (rd_own ho2).hlen
        have h2 := ownL_len h x
        have h3 := hr.hlen
        omega
      have ho5' := own_below ho5 hb2 (Nat.le_refl _)
      have hbw2 := hbw.trans (hb2.mono hbw.size)
      have hd2 := rd_own ho2
      clear C1 ho5 ho2 hb2
      go_wp2_with (at_builtin; refine wpList_app rfl (.tmp 14) (.tmp 17) _ rfl w.heap.size slt_op (n := q) (xs := cellsH (alongL h (o.take k))) (m := m2) (news := cellsH (ownL h x)) rfl ho5' rfl hd2 (oneH _) (by omega) hbw2.size ?_; intro v7 w7 hown7 hg7 hb7 hat7 hne7)
      have hb8 := hbw2.trans hb7
      rw [← cellsH_append, ← HS.out] at hown7
      go_roundw
      case rel => exact ⟨k + 1, q + m2, by omega, by omega, by go_num, hown7, hb8⟩
      case measure => simp [intOf]; omega
    · have HT : Hid (o.take k = o) := Lib.hid (List.take_of_length_le (by rw [HL.out]; omega))
      rw [HT.out] at ho5
      obtain rfl : k = m := by omega
      go_wp2
      go_ret
      exact ⟨_, _, rfl, ho5, hq, hbw⟩
end Go.Proofs.YtmehghkpghbpjaaGreat


namespace Go.Proofs.YtmehghkpghbpjaaGreat
open Go.RowKit Go.Shelf

def serE (h : List HOp) (o : List Int) : Int := if (checkF h).2 ≠ 0 then (checkF h).2 else if sortI o = dealsL (doneL h) then 0 else 3
def serL (h : List HOp) (o : List Int) : List HOp := if serE h o = 0 then alongL (doneL h) o else []
theorem dealsL_len {D : List HOp} (ht : ∀ o ∈ D, 1 ≤ o.tx ∧ o.tx ≤ 6) : (dealsL D).length ≤ 6 := by
  have := nodup_sub_len (dealsL D) [1, 2, 3, 4, 5, 6] (dealsL_nodup D) fun x hx => by
    obtain ⟨o, h1, rfl⟩ := mem_dealsL.1 hx
    have := ht o h1
    simp
    omega
  simpa using this
theorem serL_len {h : List HOp} {o : List Int} (hk : okH h) (hs : serE h o = 0) : o.length ≤ 6 := by
  unfold serE at hs
  rw [if_neg (fun e => e hk)] at hs
  split at hs
  · rename_i e
    have h1 := dealsL_len (done_tx (okH_tx hk))
    rw [← e, sortI_len] at h1
    exact h1
  · cases hs
set_option maxRecDepth 100000 in
set_option maxHeartbeats 4000000 in
theorem serial_any (A B : Option Addr) (n m c d : Nat) (h : List HOp) (o : List Int) (w : World) (hr : Rd w w.heap.size 3 A n (cellsH h)) (ho : Rd w w.heap.size 1 B m (cellsI o)) (hn : n ≤ 6000000000000) (hm : m ≤ 17592186043904) :
    Calls Tryz.prog 9 #[.slice A n c, .slice B m d] w fun e w' => ∃ v q, e = .returned (.tuple #[v, errV (serE h o)]) ∧ w'.ownsRow w.heap.size 54 3 v q (cellsH (serL h o)) ∧ q ≤ 240 ∧ Below w.heap.size w w' := by
  have C0 := hide (right_h A n c h w hr hn)
  have hl := ho.ilen
  by_cases hok : okH h
  · have hn40 : n ≤ 40 := by rw [← hr.hlen]; exact okH_len hok
    have hdl : (doneL h).length ≤ 40 := by
      have h1 := okH_len hok
      have := List.length_filter_le (fun o : HOp => (flagsF h).getD o.tx.toNat false) h
      unfold doneL; omega
    have HE : Hid (serE h o = if sortI o = dealsL (doneL h) then 0 else 3) := Lib.hid (by unfold serE; rw [if_neg (fun e => e hok)])
    have HLL : Hid (serE h o = 0 → m ≤ 6) := Lib.hid (fun e => by rw [← hl]; exact serL_len hok e)
    have HSL : Hid (serL h o = if serE h o = 0 then alongL (doneL h) o else []) := Lib.hid rfl
    have CD := hide (fun w1 (hb : Below w.heap.size w w1) => doneOf_any A n c h w1 ((hr.below hb).more hb.size) (by omega) (okH_tx hok))
    have HO := hide (fun w1 (hb : Below w.heap.size w w1) => (ho.below hb).more hb.size)
    rw [show (checkF h).2 = 0 from hok, errV_zero] at C0
    have HOL := Lib.hid hl
    clear hok hr hl
    clear ho
    generalize doneL h = D at *
    generalize serL h o = L at *
    generalize serE h o = E at *
    go_enter Tryz.func9, Tryz.ntmps9
    go_wp2_with fail
    refine (unhide C0).mono ?_
    rintro e w1 ⟨rfl, hb1⟩
    have C1 := hide (unhide CD w1 hb1)
    clear C0 CD
    go_wp2_with fail
    refine (unhide C1).mono ?_
    rintro e w2 ⟨A2, m2, c2, rfl, ho2, hb2⟩
    have hbw2 := hb1.trans (hb2.mono hb1.size)
    have hd2 := rd_own ho2
    have hm2 : m2 ≤ 40 := by rw [← hd2.hlen]; exact hdl
    clear C1 ho2 hb2 hdl
    go_wp2_with fail
    refine (values_any' B m d w2).mono ?_
    rintro e w3 ⟨rfl, rfl⟩
    have hb3 : Below w2.heap.size w2 (w2.alloc (.cells #[.slice B m d] 28)) := (Below.refl _ _).alloc (Nat.le_refl _) _
    have hbw3 := hbw2.trans (hb3.mono hbw2.size)
    have kb := Blk.new w2 28 [.slice B m d]
    have kz : w2.heap.size < (w2.alloc (.cells #[.slice B m d] 28)).heap.size := by simp
    have CS := hide (sortedV_any w2.heap.size m d B o (w2.alloc (.cells #[.slice B m d] 28)) kz (kb.cellS rfl) (unhide HO _ hbw3) hm)
    have hd3 := (hd2.below hb3).more hb3.size
    clear kb kz hb3 hd2
    go_wp2_with fail
    refine (unhide CS).mono ?_
    rintro e w4 ⟨v4, rfl, ho4, hb4⟩
    obtain ⟨A4, c4, rfl⟩ := own_slice ho4
    have hd4 := rd_own ho4
    have hbw4 := hbw3.trans (hb4.mono hbw3.size)
    have hd24 := (hd3.below hb4).more hb4.size
    have CDO := hide (dealsOf_any A2 m2 c2 D w4 hd24 (by omega))
    clear CS ho4 hb4 hbw3 hd3
    go_wp2_with fail
    refine (unhide CDO).mono ?_
    rintro e w5 ⟨v5, m5, rfl, ho5, hm5, hb5⟩
    obtain ⟨A5, c5, rfl⟩ := own_slice ho5
    have hd5 := rd_own ho5
    have hbw5 := hbw4.trans (hb5.mono hbw4.size)
    have hd45 := (hd4.below hb5).more hb5.size
    have hd25 := (hd24.below hb5).more hb5.size
    have CQ := hide (equalI_any A4 A5 o.length m5 c4 c5 (sortI o) (dealsL D) w5 hd45 hd5 (by rw [HOL.out]; exact hm))
    clear CDO ho5 hb5 hd4 hd24 hbw4
    by_cases hs : sortI o = dealsL D
    · have HE0 : Hid (E = 0) := Lib.hid (by rw [HE.out, if_pos hs])
      have hm6 := HLL.out HE0.out
      have HL0 : Hid (L = alongL D o) := Lib.hid (by rw [HSL.out, if_pos HE0.out])
      rw [decide_eq_true hs] at CQ
      clear hs HE HLL HSL
      go_wp2_with fail
      refine (unhide CQ).mono ?_
      rintro e w6 ⟨rfl, hb6⟩
      have hbw6 := hbw5.trans (hb6.mono hbw5.size)
      have CA := hide (along_any A2 B m2 m c2 d D o w6 ((hd25.below hb6).more hb6.size) (unhide HO w6 hbw6) (by omega) (by omega))
      clear CQ hb6 hd25 hd45 hd5 hbw5
      go_wp2_with fail
      refine (unhide CA).mono ?_
      rintro e w7 ⟨v7, q, rfl, ho7, hq, hb7⟩
      obtain ⟨A7, c7, rfl⟩ := own_slice ho7
      have hq2 : m * m2 ≤ 6 * 40 := Nat.mul_le_mul hm6 hm2
      go_wp2
      go_ret2
      exact ⟨_, q, by rw [HE0.out, errV_zero]; rfl, by rw [HL0.out]; exact own_mono ho7 hbw6.size, by omega, hbw6.trans (hb7.mono hbw6.size)⟩
    · have HE0 : Hid (E = 3) := Lib.hid (by rw [HE.out, if_neg hs])
      have HL0 : Hid (L = []) := Lib.hid (by rw [HSL.out, if_neg (by rw [HE0.out]; decide)])
      rw [decide_eq_false hs] at CQ
      clear hs HE HLL HSL
      go_wp2_with fail
      refine (unhide CQ).mono ?_
      rintro e w6 ⟨rfl, hb6⟩
      have hbw6 := hbw5.trans (hb6.mono hbw5.size)
      go_wp2
      go_ret2
      exact ⟨_, 0, by rw [HE0.out]; rfl, by rw [HL0.out]; exact World.ownsRow_nil _ _ _ _, by omega, hbw6⟩
  · have hc : (checkF h).2 ≠ 0 := hok
    have HE : Hid (serE h o = (checkF h).2 ∧ serL h o = []) := Lib.hid (by
      have e : serE h o = (checkF h).2 := by unfold serE; rw [if_pos hc]
      exact ⟨e, by unfold serL; rw [e, if_neg hc]⟩)
    rw [HE.out.1, HE.out.2, ne_errV (show (checkF h).2 ≠ 0 from hok)]
    rw [ne_errV (show (checkF h).2 ≠ 0 from hok)] at C0
    clear HE
    generalize (checkF h).2 = ev at *
    clear hok hc hl
    go_enter Tryz.func9, Tryz.ntmps9
    go_wp2_with fail
    refine (unhide C0).mono ?_
    rintro e w1 ⟨rfl, hb1⟩
    go_wp2
    go_ret2
    exact ⟨_, 0, rfl, World.ownsRow_nil _ _ _ _, by omega, hb1⟩
end Go.Proofs.YtmehghkpghbpjaaGreat


namespace Go.Proofs.YtmehghkpghbpjaaGreat
open Go.RowKit

theorem ownBut {w w' : World} {base : Nat} {e : TypeId} {size : Nat} {v : Value} {n : Nat} {xs : List Value} {g : Nat} (h : w.ownsRow base e size v n xs) (hg : w.grownBy w' (some g)) (hlt : g < base) : w'.ownsRow base e size v n xs := by
  refine h.kept hg ?_
  rcases h.2 with ⟨rfl, _⟩ | ⟨k, cap, cur, rfl, hk, _⟩
  · exact .inl rfl
  · right; simp [Value.ownBlock]; omega
theorem belowGrown {w w' : World} {B g : Nat} (hg : w.grownBy w' (some g)) (hB : B ≤ g) (hs : B ≤ w.heap.size) : Below B w w' :=
  ⟨hg.os, hg.tape, hg.output, hg.size, fun i hi => hg.block i (by omega) (by simp; omega)⟩
theorem getI_putI (k j : Int) (v : Value) : ∀ m : List (Int × Value), getI (putI m k v) j = if j = k then some v else getI m j
  | [] => by
    by_cases h : j = k
    · simp [putI, getI, h]
    · have : ¬ k = j := fun e => h e.symm
      simp [putI, getI, h, this]
  | p :: t => by
    unfold putI
    by_cases hp : p.1 = k
    · rw [if_pos hp]
      unfold getI
      by_cases h : j = k
      · simp [h]
      · have h2 : ¬ k = j := fun e => h e.symm
        have h3 : ¬ p.1 = j := fun e => h (by rw [← e, hp])
        simp [h, h2, h3]
    · rw [if_neg hp]
      unfold getI
      rw [getI_putI k j v t]
      by_cases h : p.1 = j
      · have h3 : ¬ j = k := fun e => hp (by rw [h, e])
        simp [h, h3]
      · simp [h]
/-- A map that counts: what a number has, 0 if it is not there. -/
def Counts (m : List (Int × Value)) (f : Int → Nat) : Prop := ∀ t, (getI m t).getD (.int .i64 0) = .int .i64 (f t)
theorem Counts.nil : Counts [] (fun _ => 0) := fun _ => rfl
theorem Counts.put {m : List (Int × Value)} {f f' : Int → Nat} (h : Counts m f) {k : Int} {c : Nat} (h1 : f' k = c) (h2 : ∀ t, t ≠ k → f' t = f t) : Counts (putI m k (.int .i64 (c : Int))) f' := by
  intro t
  rw [getI_putI]
  by_cases ht : t = k
  · rw [if_pos ht, ht, h1]; rfl
  · rw [if_neg ht, h2 t ht]; exact h t
theorem wpList_countI {P : Program} {w : World} {ops : Array Oper} {rest : List Oper} {o : Oper} {a : Act} {Q : Exit → Act → World → Prop} (hg : o.guard = none) (mo x : Operand) (t : TypeId) (hop : o.op = Op.lookup t mo x false) {kt et : TypeId} (ht : P.underlying t = some (.map kt et)) (hk : P.underlying kt = some (.int .i64)) {b : Nat} {m : List (Int × Value)} {f : Int → Nat}
    (hm : MapI w b m) (hf : Counts m f) {k : Int} {c : Nat} (hc : f k = c) (hz : ∀ w, (zeroValue et).run P w = .ok (.int .i64 0) w) (hmo : a.eval mo = .map (some b)) (hx : a.eval x = .int .i64 k)
    (h : wpList P ops Q rest (a.put o.dst (.int .i64 (c : Int))) w) : wpList P ops Q (o :: rest) a w :=
  wpList_lookupI hg mo x t false hop ht hk hm hz hmo hx (by rw [if_neg (by simp), hf k, hc]; exact h)
end Go.Proofs.YtmehghkpghbpjaaGreat


namespace Go.Proofs.YtmehghkpghbpjaaGreat
open Go.RowKit

structure KSet {κ : Type} (P : Program) (kt : TypeId) (kf : κ → Value) (ok : κ → Prop) : Prop where
  law : WideMaps.KeyLaw P kt
  key : ∀ a, ok a → ∃ l, keyOf P kt (kf a) = some l
  inj : ∀ a b, kf a = kf b → a = b
/-- Block b is a set of keys, in the order in which they came. -/
def SetK {κ : Type} (kf : κ → Value) (ok : κ → Prop) (w : World) (b : Nat) (l : List κ) : Prop :=
  ∃ es clock, w.heap[b]? = some (.map es clock) ∧ es.toList.map (fun e => (e.key, e.val)) = l.map (fun a => (kf a, Value.bool true)) ∧ ∀ a ∈ l, ok a

section
variable {κ : Type} {kf : κ → Value} {ok : κ → Prop} {w w' : World} {b : Nat} {l : List κ}
theorem SetK.new (w : World) : SetK kf ok (w.alloc (.map #[] 0)) w.heap.size [] := ⟨#[], 0, heap_alloc_new w _, rfl, by simp⟩
theorem SetK.lt (h : SetK kf ok w b l) : b < w.heap.size := by
  obtain ⟨es, clock, hb, _⟩ := h
  exact (Array.getElem?_eq_some_iff.1 hb).1
theorem SetK.kept (h : SetK kf ok w b l) (hb : w'.heap[b]? = w.heap[b]?) : SetK kf ok w' b l := by
  obtain ⟨es, clock, h1, h2⟩ := h
  exact ⟨es, clock, hb.trans h1, h2⟩
theorem SetK.alloc (h : SetK kf ok w b l) (o : Obj) : SetK kf ok (w.alloc o) b l := h.kept (Below.heap_alloc w o b h.lt)
theorem SetK.drew (h : SetK kf ok w b l) : SetK kf ok w.drew b l := h
theorem SetK.set (h : SetK kf ok w b l) {p : Addr} (hp : b ≠ p.block) (u : Value) : SetK kf ok (w.setCell p u) b l := h.kept (Below.heap_setCell w p u b hp)
theorem SetK.below {B : Nat} (h : SetK kf ok w b l) (hb : Below B w w') (hB : b < B) : SetK kf ok w' b l := h.kept (hb.block b hB)
theorem SetK.grown {row : Option Nat} (h : SetK kf ok w b l) (hg : w.grownBy w' row) (hr : ∀ k, row = some k → b ≠ k) : SetK kf ok w' b l := h.kept (hg.block b h.lt (fun e => hr b e.symm rfl))
end

section
variable {κ : Type} {kf : κ → Value} {ok : κ → Prop} {P : Program} {w : World} {t kt et : TypeId} {b : Nat} {l : List κ}
theorem find_setK (K : KSet P kt kf ok) {es : List MapEntry} (he : es.map (fun e => (e.key, e.val)) = l.map (fun a => (kf a, Value.bool true))) (hl : ∀ a ∈ l, ok a) (w : World) (a : κ) (ha : ok a) :
    (a ∉ l ∧ (Instr.findKey kt (kf a) es).run P w = .ok none w) ∨ (a ∈ l ∧ ∃ j e, (Instr.findKey kt (kf a) es).run P w = .ok (some (j, .bool true)) w ∧ es[j]? = some e ∧ e.key = kf a ∧ e.val = .bool true) := by
  obtain ⟨k, hk⟩ := K.key a ha
  have hes : ∀ e ∈ es, ∃ x ∈ l, e.key = kf x ∧ e.val = .bool true := by
    intro e hm
    have : (e.key, e.val) ∈ es.map (fun e => (e.key, e.val)) := List.mem_map.2 ⟨e, hm, rfl⟩
    rw [he] at this
    obtain ⟨x, hx, hxe⟩ := List.mem_map.1 this
    simp only [Prod.mk.injEq] at hxe
    exact ⟨x, hx, hxe.1.symm, hxe.2.symm⟩
  have hkeys : ∀ e ∈ es, ∃ q, keyOf P kt e.key = some q := by
    intro e hm
    obtain ⟨x, hx, h1, _⟩ := hes e hm
    rw [h1]; exact K.key x (hl x hx)
  rcases K.law.find w hk es hkeys with ⟨h1, h2⟩ | ⟨j, e, h1, h2, h3⟩
  · left
    refine ⟨fun hm => ?_, h1⟩
    have : (kf a, Value.bool true) ∈ l.map (fun a => (kf a, Value.bool true)) := List.mem_map.2 ⟨a, hm, rfl⟩
    rw [← he] at this
    obtain ⟨e, hem, hee⟩ := List.mem_map.1 this
    simp only [Prod.mk.injEq] at hee
    exact h2 e hem hee.1
  · right
    obtain ⟨x, hx, h4, h5⟩ := hes e (List.mem_of_getElem? h2)
    rw [h3] at h4
    obtain rfl := K.inj _ _ h4
    exact ⟨hx, j, e, by rw [h1, h5], h2, h3, h5⟩
end
section
variable {κ : Type} [DecidableEq κ] {kf : κ → Value} {ok : κ → Prop} {P : Program} {w : World} {t kt et : TypeId} {b : Nat} {l : List κ}
theorem run_hasK (K : KSet P kt kf ok) (ht : P.underlying t = some (.map kt et)) (hm : SetK kf ok w b l) (a : κ) (ha : ok a) (hz : (zeroValue et).run P w = .ok (.bool false) w) :
    (Instr.lookup t (.map (some b)) (kf a) false).run P w = .ok (.bool (decide (a ∈ l))) w := by
  obtain ⟨es, clock, hb, he, hl⟩ := hm
  obtain ⟨k, hk⟩ := K.key a ha
  have hck := K.law.check w es.isEmpty hk
  rcases find_setK K he hl w a ha with ⟨h1, h2⟩ | ⟨h1, j, e, h2, _⟩
  · simp [Instr.lookup, run_underlying ht, getObj, Sem.run, hb, hck, h2, hz, h1]
  · simp [Instr.lookup, run_underlying ht, getObj, Sem.run, hb, hck, h2, h1]
theorem run_putK (K : KSet P kt kf ok) (ht : P.underlying t = some (.map kt et)) (hm : SetK kf ok w b l) (a : κ) (ha : ok a) :
    ∃ w', (Instr.mapUpdate t (.map (some b)) (kf a) (.bool true)).run P w = .ok () w' ∧ SetK kf ok w' b (if a ∈ l then l else l ++ [a]) ∧ w.grownBy w' (some b) := by
  obtain ⟨es, clock, hb, he, hl⟩ := hm
  obtain ⟨k, hk⟩ := K.key a ha
  have hck := K.law.check w false hk
  have hg : ∀ o : Obj, w.grownBy { w with heap := w.heap.setIfInBounds b o } (some b) := fun o => ⟨rfl, rfl, rfl, by simp, fun i _ hi => by
    rw [Array.getElem?_setIfInBounds, if_neg (fun e => hi (by rw [e]))]⟩
  have hs : ∀ o : Obj, ({ w with heap := w.heap.setIfInBounds b o } : World).heap[b]? = some o := fun o => by
    have hlt := (Array.getElem?_eq_some_iff.1 hb).1
    rw [Array.getElem?_setIfInBounds, if_pos rfl, if_pos hlt]
  rcases find_setK K he hl w a ha with ⟨h1, h2⟩ | ⟨h1, j, e, h2, h3, h4, h5⟩
  · refine ⟨{ w with heap := w.heap.setIfInBounds b (.map (es.push { key := kf a, val := .bool true, born := clock }) (clock + 1)) }, ?_, ⟨_, _, hs _, ?_, ?_⟩, hg _⟩
    · simp [Instr.mapUpdate, run_underlying ht, getObj, setObj, Sem.run, hb, hck, h2]
    · rw [if_neg h1, Array.toList_push, List.map_append, he, List.map_append]; rfl
    · rw [if_neg h1]
      intro x hx
      rcases List.mem_append.1 hx with h | h
      · exact hl x h
      · rw [List.mem_singleton.1 h]; exact ha
  · have hj : es[j]? = some e := by simpa using h3
    have hjl := (Array.getElem?_eq_some_iff.1 hj).1
    have hje := (Array.getElem?_eq_some_iff.1 hj).2
    refine ⟨{ w with heap := w.heap.setIfInBounds b (.map (es.modify j fun e => { e with key := kf a, val := .bool true }) clock) }, ?_, ⟨_, _, hs _, ?_, ?_⟩, hg _⟩
    · have hst := K.law.stays w hk
      simp [Instr.mapUpdate, run_underlying ht, getObj, setObj, Sem.run, hb, hck, h2, hj, h4, hst]
    · rw [if_pos h1, ← he, Array.toList_modify]
      apply List.ext_getElem?
      intro i
      simp only [List.getElem?_map, List.getElem?_modify]
      by_cases hij : j = i
      · subst hij
        rw [h3]
        simp [h4, h5]
      · simp [hij]
    · rw [if_pos h1]; exact hl
end

section
variable {κ : Type} {kf : κ → Value} {ok : κ → Prop} {P : Program} {w : World} {ops : Array Oper} {rest : List Oper} {o : Oper} {a : Act} {Q : Exit → Act → World → Prop}
open Classical in
theorem wpList_hasK (hg : o.guard = none) (mo x : Operand) (t : TypeId) (hop : o.op = Op.lookup t mo x false) {kt et : TypeId} (K : KSet P kt kf ok) (ht : P.underlying t = some (.map kt et)) {b : Nat} {l : List κ}
    (hm : SetK kf ok w b l) (k : κ) (hk : ok k) (q : Bool) (hq : q = true ↔ k ∈ l) (hz : (zeroValue et).run P w = .ok (.bool false) w) (hmo : a.eval mo = .map (some b)) (hx : a.eval x = kf k)
    (h : wpList P ops Q rest (a.put o.dst (.bool q)) w) : wpList P ops Q (o :: rest) a w :=
  wpList_plain hg fun _ hK => by
    have hrun := run_hasK K ht hm k hk hz
    have hd : decide (k ∈ l) = q := by
      cases q
      · exact decide_eq_false fun h => by simpa using hq.2 h
      · exact decide_eq_true (hq.1 rfl)
    rw [hd] at hrun
    unfold Oper.wp
    simp [execOp, hop, hmo, hx, hrun, Result.andThen]
    exact hK _ _ h
open Classical in
theorem wpList_putK (hg : o.guard = none) (mo x v : Operand) (t : TypeId) (hop : o.op = Op.mapUpdate t mo x v) {kt et : TypeId} (K : KSet P kt kf ok) (ht : P.underlying t = some (.map kt et)) {b : Nat} {l : List κ}
    (hm : SetK kf ok w b l) (k : κ) (hk : ok k) (hmo : a.eval mo = .map (some b)) (hx : a.eval x = kf k) (hv : a.eval v = .bool true)
    (h : ∀ w' l', SetK kf ok w' b l' → (∀ y, y ∈ l' ↔ y ∈ l ∨ y = k) → w.grownBy w' (some b) → wpList P ops Q rest (a.put o.dst undef) w') : wpList P ops Q (o :: rest) a w :=
  wpList_plain hg fun _ hK => by
    obtain ⟨w', hrun, h1, h2⟩ := run_putK K ht hm k hk
    unfold Oper.wp
    simp [execOp, hop, hmo, hx, hv, hrun, Result.andThen]
    refine hK _ _ (h w' _ h1 (fun y => ?_) h2)
    split
    · rename_i hm
      exact ⟨.inl, fun h => h.elim id fun e => by rw [e]; exact hm⟩
    · simp
end
end Go.Proofs.YtmehghkpghbpjaaGreat
