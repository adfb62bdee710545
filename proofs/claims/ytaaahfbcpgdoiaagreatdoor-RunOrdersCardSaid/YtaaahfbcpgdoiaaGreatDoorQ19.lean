
/-
  CONTRACTS of slices.Equal at numbers, history.DealsOf, serial.Along.
  CONTRACTS of slices.Values at numbers (a range over a function), AppendSeq, Collect, Sorted over it.
  CONTRACT of serial.Serial: the ops of what is done along an order, or the fault.
-/
import Derived.Test.YtaaahfbcpgdoiaaGreatDoorQ11
import Derived.Test.YtaaahfbcpgdoiaaGreatDoorQ17
import Derived.Test.YtaaahfbcpgdoiaaGreatDoorQ1
import Derived.Test.YtaaahfbcpgdoiaaGreatDoorQ18
import Derived.Test.YtaaahfbcpgdoiaaGreatDoorQ6

namespace Go.Proofs.YtaaahfbcpgdoiaaGreatDoor
open Go.RowKit Go.Shelf

set_option maxHeartbeats 1000000 in
theorem equalI_any (A B : Option Addr) (n m c d : Nat) (xs ys : List Int) (w : World) (ha : Rd w w.heap.size 1 A n (cellsI xs)) (hb : Rd w w.heap.size 1 B m (cellsI ys)) (hm : n ≤ 17592186043904) :
    Calls Tryz.prog 99 #[.slice A n c, .slice B m d] w fun e w' => e = .returned (.bool (decide (xs = ys))) ∧ Below w.heap.size w w' := by
  have hl1 := ha.ilen
  have hl2 := hb.ilen
  by_cases hnm : n = m
  · have hnm2 : ((n : Int) != (m : Int)) = false := by simp [hnm]
    have HN := Lib.hid hnm
    have HL := Lib.hid (And.intro hl1 hl2)
    have hle : n ≤ m := by omega
    clear hnm hl1 hl2
    go_enter Tryz.func99, Tryz.ntmps99
    go_wp2
    clear hnm2
    go_loopw [13] (fun i wr => ∃ k : Nat, k ≤ n ∧ i = .int .i64 k ∧ Hid (xs.take k = ys.take k) ∧ Below w.heap.size w wr) (fun i _ => n - (intOf i).toNat)
    case atStart => exact ⟨0, Nat.zero_le _, rfl, rfl, Below.refl _ _⟩
    case round =>
      obtain ⟨k, hk, rfl, HE, hbw⟩ := hrel
      by_cases hlt : k < n
      · obtain ⟨b1, o1, x, he, _, hx, c1⟩ := (ha.below hbw).int (k := k) (by omega)
        cases he
        obtain ⟨b2, o2, y, he, _, hy, c2⟩ := (hb.below hbw).int (k := k) (by omega)
        cases he
        have HT := Lib.hid (take_same HE.out hx hy)
        clear hx hy
        have hlm : k < m := by omega
        by_cases hxy : x = y
        · have HE2 := Lib.hid (HT.out.1 hxy)
          subst hxy
          go_wp2
          go_quiet (fail)
          go_wp2
          go_roundw
          case rel => exact ⟨k + 1, by omega, by go_num, HE2, below_drewN hbw _⟩
          case measure => simp [intOf]; omega
        · have HE2 : Hid (decide (xs = ys) = false) := Lib.hid (decide_eq_false (HT.out.2 hxy))
          have hxy2 : (x != y) = true := by simp [hxy]
          go_wp2
          go_quiet (fail)
          go_wp2
          go_ret
          exact ⟨ret_bool HE2.out.symm, below_drewN hbw _⟩
      · have HE2 : Hid (decide (xs = ys) = true) := Lib.hid (decide_eq_true (by
          have := HE.out
          rwa [List.take_of_length_le (by rw [HL.out.1]; omega), List.take_of_length_le (by rw [HL.out.2, ← HN.out]; omega)] at this))
        go_wp2
        go_ret
        exact ⟨ret_bool HE2.out.symm, hbw⟩
  · have HE2 : Hid (decide (xs = ys) = false) := Lib.hid (decide_eq_false (by rintro rfl; omega))
    have hnm2 : ((n : Int) != (m : Int)) = true := by simp; omega
    go_enter Tryz.func99, Tryz.ntmps99
    go_wp2
    go_ret
    exact ⟨ret_bool HE2.out.symm, Below.refl _ _⟩

/-! ### Deals. -/
def uniqL (acc : List Int) : List HOp → List Int
  | [] => acc
  | o :: t => uniqL (if o.tx ∈ acc then acc else acc ++ [o.tx]) t
theorem uniqL_step {acc : List Int} {o : HOp} {l t : List HOp} (e : l = o :: t) : uniqL acc l = uniqL (if o.tx ∈ acc then acc else acc ++ [o.tx]) t := by rw [e, uniqL]
theorem uniqL_nodup : ∀ {l : List HOp} {acc : List Int}, acc.Nodup → (uniqL acc l).Nodup
  | [], _, h => h
  | o :: t, acc, h => by
    rw [uniqL]
    refine uniqL_nodup ?_
    split
    · exact h
    · rename_i hn
      exact List.nodup_append.2 ⟨h, by simp, fun x hx y hy hxy => hn (by rw [List.mem_singleton] at hy; rw [← hy, ← hxy]; exact hx)⟩
theorem mem_uniqL {x : Int} : ∀ {l : List HOp} {acc : List Int}, x ∈ uniqL acc l ↔ x ∈ acc ∨ ∃ o ∈ l, o.tx = x
  | [], acc => by simp [uniqL]
  | o :: t, acc => by
    rw [uniqL, mem_uniqL]
    split
    · rename_i hm
      constructor
      · rintro (h | ⟨y, h1, h2⟩)
        · exact .inl h
        · exact .inr ⟨y, List.mem_cons_of_mem _ h1, h2⟩
      · rintro (h | ⟨y, h1, h2⟩)
        · exact .inl h
        · rcases List.mem_cons.1 h1 with e | e
          · exact .inl (by rw [← h2, e]; exact hm)
          · exact .inr ⟨y, e, h2⟩
    · constructor
      · rintro (h | ⟨y, h1, h2⟩)
        · rcases List.mem_append.1 h with h | h
          · exact .inl h
          · exact .inr ⟨o, List.mem_cons_self, (List.mem_singleton.1 h).symm⟩
        · exact .inr ⟨y, List.mem_cons_of_mem _ h1, h2⟩
      · rintro (h | ⟨y, h1, h2⟩)
        · exact .inl (List.mem_append_left _ h)
        · rcases List.mem_cons.1 h1 with e | e
          · exact .inl (List.mem_append_right _ (by rw [← h2, e]; exact List.mem_singleton.2 rfl))
          · exact .inr ⟨y, e, h2⟩
theorem sort_uniq (h : List HOp) : sortI (uniqL [] h) = dealsL h := by
  unfold dealsL
  refine sortS_eq sloI ?_ fun x => ?_
  · have h1 := sortI_up (uniqL [] h)
    have h2 : (sortI (uniqL [] h)).Nodup := (List.mergeSort_perm _ _).nodup_iff.2 (uniqL_nodup List.nodup_nil)
    have h3 := h1.and h2
    exact h3.imp fun {a b} ⟨g1, g2⟩ => by simp [ltI] at g1 ⊢; omega
  · rw [sortI_mem, mem_uniqL, List.mem_map]
    simp
set_option maxRecDepth 100000 in
set_option maxHeartbeats 4000000 in
theorem dealsOf_any (A : Option Addr) (n cap : Nat) (h : List HOp) (w : World) (hr : Rd w w.heap.size 3 A n (cellsH h)) (hm : n ≤ 1000000) :
    Calls Tryz.prog 51 #[.slice A n cap] w fun e w' => ∃ v m, e = .returned v ∧ w'.ownsRow w.heap.size 3 1 v m (cellsI (dealsL h)) ∧ m ≤ n ∧ Below w.heap.size w w' := by
  have HL := Lib.hid hr.hlen
  have HD := Lib.hid (sort_uniq h)
  generalize dealsL h = R at *
  go_enter Tryz.func51, Tryz.ntmps51
  go_wp2
  go_loopw [3, 8] (fun s3 s8 wr => ∃ (k m : Nat) (acc : List Int), k ≤ n ∧ m ≤ k ∧ s8 = .int .i64 k ∧ wr.ownsRow w.heap.size 3 1 s3 m (cellsI acc) ∧ Hid (uniqL [] h = uniqL acc (h.drop k)) ∧ Below w.heap.size w wr) (fun _ s8 _ => n - (intOf s8).toNat)
  case atStart => exact ⟨0, 0, [], Nat.zero_le _, Nat.le_refl _, rfl, World.ownsRow_nil _ _ _ _, rfl, Below.refl _ _⟩
  case round =>
    obtain ⟨k, m, acc, hk, hmk, rfl, ho3, HE, hbw⟩ := hrel
    obtain ⟨A3, c3, rfl⟩ := own_slice ho3
    by_cases hlt : k < n
    · obtain ⟨b, off, o, he, hb, ho, c0, c1, c2⟩ := (hr.below hbw).op (k := k) (by omega)
      cases he
      have HS := Lib.hid (HE.out.trans (uniqL_step (drop_at ho)))
      clear ho HE
      obtain ⟨o1, o2, o3⟩ := o
      simp only at c0 c1 c2 HS
      have hz := hbw.size
      have hb4 : Below w.heap.size w (wr.alloc (.cells #[.int .i64 o1, .int .i64 o2, .int .i64 o3] 91)) := hbw.alloc hz _
      have ho4 := own_alloc ho3 (.cells #[.int .i64 o1, .int .i64 o2, .int .i64 o3] 91)
      have C := hide (icontains_rd A3 m c3 acc o1 (wr.alloc (.cells #[.int .i64 o1, .int .i64 o2, .int .i64 o3] 91)) _ (rd_own ho4) (by omega))
      by_cases hin : o1 ∈ acc
      · have HS2 : Hid (uniqL [] h = uniqL acc (h.drop (k + 1))) := Lib.hid (by rw [HS.out, if_pos hin])
        rw [decide_eq_true hin] at C
        clear hin HS ho3
        go_wp2_with fail
        refine (unhide C).mono ?_
        rintro e w' ⟨rfl, rfl⟩
        go_wp2
        go_roundw
        case rel => exact ⟨k + 1, m, acc, by omega, by omega, by go_num, ho4, HS2, hb4⟩
        case measure => simp [intOf]; omega
      · have HS2 : Hid (uniqL [] h = uniqL (acc ++ [o1]) (h.drop (k + 1))) := Lib.hid (by rw [HS.out, if_neg hin])
        rw [decide_eq_false hin] at C
        clear hin HS ho3
        go_wp2_with fail
        refine (unhide C).mono ?_
        rintro e w' ⟨rfl, rfl⟩
        go_wp2_with (at_builtin; refine wpList_app rfl (.tmp 17) (.tmp 20) _ rfl w.heap.size slt_ints (n := m) (xs := cellsI acc) (m := 1) (news := cellsI [o1]) rfl (own_alloc ho4 _) rfl (rd_new' _ _ (cellsI [o1]) (by simp) rfl) (oneI _) (by omega) (by simp; omega) ?_; intro v5 w5 hown5 hg5 hb5 hat5 hne5)
        have hb6 := (hb4.alloc hb4.size (.cells (cellsI [o1]).toArray 3)).trans hb5
        have e1 : cellsI acc ++ cellsI [o1] = cellsI (acc ++ [o1]) := by simp [cellsI]
        rw [e1] at hown5
        clear e1
        go_roundw
        case rel => exact ⟨k + 1, m + 1, acc ++ [o1], by omega, by omega, by go_num, hown5, HS2, hb6⟩
        case measure => simp [intOf]; omega
    · have HU : Hid (acc = uniqL [] h) := Lib.hid (by rw [HE.out, drop_end (by rw [HL.out]; omega)]; rfl)
      rw [HU.out] at ho3
      have CS := hide (isort_own ho3 hbw.size (by omega))
      clear ho3 HE
      go_wp2_with fail
      refine (unhide CS).mono ?_
      rintro e w4 ⟨rfl, ho4, _, hb4⟩
      rw [HD.out] at ho4
      go_wp2
      go_ret
      exact ⟨_, _, rfl, ho4, by omega, hbw.trans hb4⟩

/-! ### Along an order. -/
theorem alongL_snoc (D : List HOp) {o : List Int} {k : Nat} {x : Int} (h : o[k]? = some x) : alongL D (o.take (k + 1)) = alongL D (o.take k) ++ ownL D x := by
  rw [List.take_add_one, h, alongL_append]
  simp [alongL]
set_option maxRecDepth 100000 in
set_option maxHeartbeats 4000000 in
theorem along_any (A B : Option Addr) (n m c d : Nat) (h : List HOp) (o : List Int) (w : World) (hr : Rd w w.heap.size 3 A n (cellsH h)) (ho : Rd w w.heap.size 1 B m (cellsI o)) (hn : n ≤ 1000) (hm : m ≤ 1000) :
    Calls Tryz.prog 54 #[.slice A n c, .slice B m d] w fun e w' => ∃ v q, e = .returned v ∧ w'.ownsRow w.heap.size 91 3 v q (cellsH (alongL h o)) ∧ q ≤ m * n ∧ Below w.heap.size w w' := by
  have HL := Lib.hid ho.ilen
  have CO := hide (fun t w1 (hb : Below w.heap.size w w1) => own_any A n c h t w1 ((hr.below hb).more hb.size) (by omega))
  go_enter Tryz.func54, Tryz.ntmps54
  go_wp2
  go_loopw [5, 10] (fun s5 s10 wr => ∃ k q : Nat, k ≤ m ∧ q ≤ k * n ∧ s10 = .int .i64 k ∧ wr.ownsRow w.heap.size 91 3 s5 q (cellsH (alongL h (o.take k))) ∧ Below w.heap.size w wr) (fun _ s10 _ => m - (intOf s10).toNat)
  case atStart => exact ⟨0, 0, Nat.zero_le _, Nat.zero_le _, rfl, World.ownsRow_nil _ _ _ _, Below.refl _ _⟩
  case round =>
    obtain ⟨k, q, hk, hq, rfl, ho5, hbw⟩ := hrel
    obtain ⟨A5, c5, rfl⟩ := own_slice ho5
    by_cases hlt : k < m
    · obtain ⟨b, off, x, he, hb, hx, c0⟩ := (ho.below hbw).int (k := k) hlt
      cases he
      have HS := Lib.hid (alongL_snoc h hx)
      have C1 := hide (unhide CO x wr hbw)
      have hz := hbw.size
      clear hx
      have hkn : k * n ≤ 1000 * 1000 := Nat.mul_le_mul (by omega) hn
      have hk1 : (k + 1) * n = k * n + n := Nat.succ_mul k n
      go_wp2_with fail
      refine (unhide C1).mono ?_
      rintro e w2 ⟨A2, m2, c2, rfl, ho2, hb2⟩
      have hm2 : m2 ≤ n := by
        have h1 := (rd_own ho2).hlen
        have h2 := ownL_len h x
        have h3 := hr.hlen
        omega
      have ho5' := own_below ho5 hb2 (Nat.le_refl _)
      have hbw2 := hbw.trans (hb2.mono hbw.size)
      have hd2 := rd_own ho2
      clear C1 ho5 ho2 hb2
      go_wp2_with (at_builtin; refine wpList_app rfl (.tmp 14) (.tmp 17) _ rfl w.heap.size slt_op (n := q) (xs := cellsH (alongL h (o.take k))) (m := m2) (news := cellsH (ownL h x)) rfl ho5' rfl hd2 (oneH _) (by omega) hbw2.size ?_; intro v7 w7 hown7 hg7 hb7 hat7 hne7)
      have hb8 := hbw2.trans hb7
      rw [← cellsH_append, ← HS.out] at hown7
      go_roundw
      case rel => exact ⟨k + 1, q + m2, by omega, by omega, by go_num, hown7, hb8⟩
      case measure => simp [intOf]; omega
    · have HT : Hid (o.take k = o) := Lib.hid (List.take_of_length_le (by rw [HL.out]; omega))
      rw [HT.out] at ho5
      obtain rfl : k = m := by omega
      go_wp2
      go_ret
      exact ⟨_, _, rfl, ho5, hq, hbw⟩
end Go.Proofs.YtaaahfbcpgdoiaaGreatDoor


namespace Go.Proofs.YtaaahfbcpgdoiaaGreatDoor
open Go.RowKit Go.Shelf

attribute [local go_sem] Oper.semAt_some

def iVals (x : Int) : Array Value := #[.int .i64 x]
theorem own_setb {w : World} {base : Nat} {e t : TypeId} {size : Nat} {v : Value} {n g : Nat} {xs cs : List Value} (h : w.ownsRow base e size v n xs) (hB : Blk w g t cs) (hne : t ≠ e) (i : Nat) (u : Value) : (w.setCell ⟨g, i, none⟩ u).ownsRow base e size v n xs := by
  refine h.kept (row := some g) ⟨rfl, rfl, rfl, by simp [World.setCell], fun k _ hk => Below.heap_setCell w _ u k (fun e => hk (by rw [e]))⟩ ?_
  rcases h.2 with ⟨rfl, _⟩ | ⟨g', cap, cur, rfl, _, hh, _⟩
  · exact .inl rfl
  · right
    intro he
    simp [Value.ownBlock] at he
    subst he
    unfold Blk at hB
    rw [hB] at hh
    injection hh with hh
    injection hh with _ ht
    exact hne ht
/-! ### AppendSeq. -/
def ApI (bx base : Nat) (s : List Int) (W : World) : Prop := ∃ v, Blk W bx 24 [v] ∧ W.ownsRow base 3 1 v s.length (cellsI s)
theorem apI_own (B bx base : Nat) : OwnFrom B (ApI bx base) := fun s X Y row hs hg hrow => by
  obtain ⟨v, h1, h2⟩ := hs
  refine ⟨v, (hg.block bx h1.lt (fun e => ?_)).trans h1, h2.kept hg ?_⟩
  · obtain ⟨_, o, ho, hc⟩ := hrow bx e.symm
    rw [show X.heap[bx]? = _ from h1] at ho; cases ho; cases hc
  · rcases h2.2 with ⟨rfl, _⟩ | ⟨g, cap, cur, rfl, _, hh, _⟩
    · exact .inl rfl
    · right
      intro e
      obtain ⟨_, o, ho, hc⟩ := hrow g (by simpa [Value.ownBlock] using e.symm)
      rw [hh] at ho; cases ho; cases hc
/-! ### Collect, Sorted. -/
end Go.Proofs.YtaaahfbcpgdoiaaGreatDoor


namespace Go.Proofs.YtaaahfbcpgdoiaaGreatDoor
open Go.RowKit Go.Shelf

def serE (h : List HOp) (o : List Int) : Int := if (checkF h).2 ≠ 0 then (checkF h).2 else if sortI o = dealsL (doneL h) then 0 else 3
def serL (h : List HOp) (o : List Int) : List HOp := if serE h o = 0 then alongL (doneL h) o else []
theorem dealsL_len {D : List HOp} (ht : ∀ o ∈ D, 1 ≤ o.tx ∧ o.tx ≤ 6) : (dealsL D).length ≤ 6 := by
  have := nodup_sub_len (dealsL D) [1, 2, 3, 4, 5, 6] (dealsL_nodup D) fun x hx => by
    obtain ⟨o, h1, rfl⟩ := mem_dealsL.1 hx
    have := ht o h1
    simp
    omega
  simpa using this
theorem serL_len {h : List HOp} {o : List Int} (hk : okH h) (hs : serE h o = 0) : o.length ≤ 6 := by
  unfold serE at hs
  rw [if_neg (fun e => e hk)] at hs
  split at hs
  · rename_i e
    have h1 := dealsL_len (done_tx (okH_tx hk))
    rw [← e, sortI_len] at h1
    exact h1
  · cases hs
end Go.Proofs.YtaaahfbcpgdoiaaGreatDoor
