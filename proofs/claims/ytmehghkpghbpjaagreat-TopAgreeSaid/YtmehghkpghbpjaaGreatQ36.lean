
/-
  CONTRACTS of slices.Equal at numbers, history.DealsOf, serial.Along.
  CONTRACTS of slices.Values at numbers (a range over a function), AppendSeq, Collect, Sorted over it.
  CONTRACT of serial.Serial: the ops of what is done along an order, or the fault.
-/
import Derived.Test.YtmehghkpghbpjaaGreatQ26
import Derived.Test.YtmehghkpghbpjaaGreatQ29
import Derived.Test.YtmehghkpghbpjaaGreatQ34
import Derived.Test.YtmehghkpghbpjaaGreatQ3
import Derived.Test.YtmehghkpghbpjaaGreatQ35
import Derived.Test.YtmehghkpghbpjaaGreatQ8

namespace Go.Proofs.YtmehghkpghbpjaaGreat
open Go.RowKit Go.Shelf

set_option maxHeartbeats 1000000 in
theorem equalI_any (A B : Option Addr) (n m c d : Nat) (xs ys : List Int) (w : World) (ha : Rd w w.heap.size 1 A n (cellsI xs)) (hb : Rd w w.heap.size 1 B m (cellsI ys)) (hm : n ≤ 17592186043904) :
    Calls Tryz.prog 30 #[.slice A n c, .slice B m d] w fun e w' => e = .returned (.bool (decide (xs = ys))) ∧ Below w.heap.size w w' := by
  have hl1 := ha.ilen
  have hl2 := hb.ilen
  by_cases hnm : n = m
  · have hnm2 : ((n : Int) != (m : Int)) = false := by simp [hnm]
    have HN := Lib.hid hnm
    have HL := Lib.hid (And.intro hl1 hl2)
    have hle : n ≤ m := by omega
    clear hnm hl1 hl2
    go_enter Tryz.func30, Tryz.ntmps30
    go_wp2
    clear hnm2
    go_loopw [13] (fun i wr => ∃ k : Nat, k ≤ n ∧ i = .int .i64 k ∧ Hid (xs.take k = ys.take k) ∧ Below w.heap.size w wr) (fun i _ => n - (intOf i).toNat)
    case atStart => exact ⟨0, Nat.zero_le _, rfl, rfl, Below.refl _ _⟩
    case round =>
      obtain ⟨k, hk, rfl, HE, hbw⟩ := hrel
      by_cases hlt : k < n
      · obtain ⟨b1, o1, x, he, _, hx, c1⟩ := (ha.below hbw).int (k := k) (by omega)
        cases he
        obtain ⟨b2, o2, y, he, _, hy, c2⟩ := (hb.below hbw).int (k := k) (by omega)
        cases he
        have HT := Lib.hid (take_same HE.out hx hy)
        clear hx hy
        have hlm : k < m := by omega
        by_cases hxy : x = y
        · have HE2 := Lib.hid (HT.out.1 hxy)
          subst hxy
          go_wp2
          go_quiet (fail)
          go_wp2
          go_roundw
          case rel => exact ⟨k + 1, by omega, by go_num, HE2, below_drewN hbw _⟩
          case measure => simp [intOf]; omega
        · have HE2 : Hid (decide (xs = ys) = false) := Lib.hid (decide_eq_false (HT.out.2 hxy))
          have hxy2 : (x != y) = true := by simp [hxy]
          go_wp2
          go_quiet (fail)
          go_wp2
          go_ret
          exact ⟨ret_bool HE2.out.symm, below_drewN hbw _⟩
      · have HE2 : Hid (decide (xs = ys) = true) := Lib.hid (decide_eq_true (by
          have := HE.out
          rwa [List.take_of_length_le (by rw [HL.out.1]; omega), List.take_of_length_le (by rw [HL.out.2, ← HN.out]; omega)] at this))
        go_wp2
        go_ret
        exact ⟨ret_bool HE2.out.symm, hbw⟩
  · have HE2 : Hid (decide (xs = ys) = false) := Lib.hid (decide_eq_false (by rintro rfl; omega))
    have hnm2 : ((n : Int) != (m : Int)) = true := by simp; omega
    go_enter Tryz.func30, Tryz.ntmps30
    go_wp2
    go_ret
    exact ⟨ret_bool HE2.out.symm, Below.refl _ _⟩

/-! ### Deals. -/
def uniqL (acc : List Int) : List HOp → List Int
  | [] => acc
  | o :: t => uniqL (if o.tx ∈ acc then acc else acc ++ [o.tx]) t
theorem uniqL_step {acc : List Int} {o : HOp} {l t : List HOp} (e : l = o :: t) : uniqL acc l = uniqL (if o.tx ∈ acc then acc else acc ++ [o.tx]) t := by rw [e, uniqL]
theorem uniqL_nodup : ∀ {l : List HOp} {acc : List Int}, acc.Nodup → (uniqL acc l).Nodup
  | [], _, h => h
  | o :: t, acc, h => by
    rw [uniqL]
    refine uniqL_nodup ?_
    split
    · exact h
    · rename_i hn
      exact List.nodup_append.2 ⟨h, by simp, fun x hx y hy hxy => hn (by rw [List.mem_singleton] at hy; rw [← hy, ← hxy]; exact hx)⟩
theorem mem_uniqL {x : Int} : ∀ {l : List HOp} {acc : List Int}, x ∈ uniqL acc l ↔ x ∈ acc ∨ ∃ o ∈ l, o.tx = x
  | [], acc => by simp [uniqL]
  | o :: t, acc => by
    rw [uniqL, mem_uniqL]
    split
    · rename_i hm
      constructor
      · rintro (h | ⟨y, h1, h2⟩)
        · exact .inl h
        · exact .inr ⟨y, List.mem_cons_of_mem _ h1, h2⟩
      · rintro (h | ⟨y, h1, h2⟩)
        · exact .inl h
        · rcases List.mem_cons.1 h1 with e | e
          · exact .inl (by rw [← h2, e]; exact hm)
          · exact .inr ⟨y, e, h2⟩
    · constructor
      · rintro (h | ⟨y, h1, h2⟩)
        · rcases List.mem_append.1 h with h | h
          · exact .inl h
          · exact .inr ⟨o, List.mem_cons_self, (List.mem_singleton.1 h).symm⟩
        · exact .inr ⟨y, List.mem_cons_of_mem _ h1, h2⟩
      · rintro (h | ⟨y, h1, h2⟩)
        · exact .inl (List.mem_append_left _ h)
        · rcases List.mem_cons.1 h1 with e | e
          · exact .inl (List.mem_append_right _ (by rw [← h2, e]; exact List.mem_singleton.2 rfl))
          · exact .inr ⟨y, e, h2⟩
theorem sort_uniq (h : List HOp) : sortI (uniqL [] h) = dealsL h := by
  unfold dealsL
  refine sortS_eq sloI ?_ fun x => ?_
  · have h1 := sortI_up (uniqL [] h)
    have h2 : (sortI (uniqL [] h)).Nodup := (List.mergeSort_perm _ _).nodup_iff.2 (uniqL_nodup List.nodup_nil)
    have h3 := h1.and h2
    exact h3.imp fun {a b} ⟨g1, g2⟩ => by simp [ltI] at g1 ⊢; omega
  · rw [sortI_mem, mem_uniqL, List.mem_map]
    simp
set_option maxRecDepth 100000 in
set_option maxHeartbeats 4000000 in
theorem dealsOf_any (A : Option Addr) (n cap : Nat) (h : List HOp) (w : World) (hr : Rd w w.heap.size 3 A n (cellsH h)) (hm : n ≤ 1000000) :
    Calls Tryz.prog 33 #[.slice A n cap] w fun e w' => ∃ v m, e = .returned v ∧ w'.ownsRow w.heap.size 3 1 v m (cellsI (dealsL h)) ∧ m ≤ n ∧ Below w.heap.size w w' := by
  have HL := Lib.hid hr.hlen
  have HD := Lib.hid (sort_uniq h)
  generalize dealsL h = R at *
  go_enter Tryz.func33, Tryz.ntmps33
  go_wp2
  go_loopw [3, 8] (fun s3 s8 wr => ∃ (k m : Nat) (acc : List Int), k ≤ n ∧ m ≤ k ∧ s8 = .int .i64 k ∧ wr.ownsRow w.heap.size 3 1 s3 m (cellsI acc) ∧ Hid (uniqL [] h = uniqL acc (h.drop k)) ∧ Below w.heap.size w wr) (fun _ s8 _ => n - (intOf s8).toNat)
  case atStart => exact ⟨0, 0, [], Nat.zero_le _, Nat.le_refl _, rfl, World.ownsRow_nil _ _ _ _, rfl, Below.refl _ _⟩
  case round =>
    obtain ⟨k, m, acc, hk, hmk, rfl, ho3, HE, hbw⟩ := hrel
    obtain ⟨A3, c3, rfl⟩ := own_slice ho3
    by_cases hlt : k < n
    · obtain ⟨b, off, o, he, hb, ho, c0, c1, c2⟩ := (hr.below hbw).op (k := k) (by omega)
      cases he
      have HS := Lib.hid (HE.out.trans (uniqL_step (drop_at ho)))
      clear ho HE
      obtain ⟨o1, o2, o3⟩ := o
      simp only at c0 c1 c2 HS
      have hz := hbw.size
      have hb4 : Below w.heap.size w (wr.alloc (.cells #[.int .i64 o1, .int .i64 o2, .int .i64 o3] 54)) := hbw.alloc hz _
      have ho4 := own_alloc ho3 (.cells #[.int .i64 o1, .int .i64 o2, .int .i64 o3] 54)
      have C := hide (icontains_rd A3 m c3 acc o1 (wr.alloc (.cells #[.int .i64 o1, .int .i64 o2, .int .i64 o3] 54)) _ (rd_own ho4) (by omega))
      by_cases hin : o1 ∈ acc
      · have HS2 : Hid (uniqL [] h = uniqL acc (h.drop (k + 1))) := Lib.hid (by rw [HS.out, if_pos hin])
        rw [decide_eq_true hin] at C
        clear hin HS ho3
        go_wp2_with fail
        refine (unhide C).mono ?_
        rintro e w' ⟨rfl, rfl⟩
        go_wp2
        go_roundw
        case rel => exact ⟨k + 1, m, acc, by omega, by omega, by go_num, ho4, HS2, hb4⟩
        case measure => simp [intOf]; omega
      · have HS2 : Hid (uniqL [] h = uniqL (acc ++ [o1]) (h.drop (k + 1))) := Lib.hid (by rw [HS.out, if_neg hin])
        rw [decide_eq_false hin] at C
        clear hin HS ho3
        go_wp2_with fail
        refine (unhide C).mono ?_
        rintro e w' ⟨rfl, rfl⟩
        go_wp2_with (at_builtin; refine wpList_app rfl (.tmp 17) (.tmp 20) _ rfl w.heap.size slt_ints (n := m) (xs := cellsI acc) (m := 1) (news := cellsI [o1]) rfl (own_alloc ho4 _) rfl (rd_new' _ _ (cellsI [o1]) (by simp) rfl) (oneI _) (by omega) (by simp; omega) ?_; intro v5 w5 hown5 hg5 hb5 hat5 hne5)
        have hb6 := (hb4.alloc hb4.size (.cells (cellsI [o1]).toArray 3)).trans hb5
        have e1 : cellsI acc ++ cellsI [o1] = cellsI (acc ++ [o1]) := by simp [cellsI]
        rw [e1] at hown5
        clear e1
        go_roundw
        case rel => exact ⟨k + 1, m + 1, acc ++ [o1], by omega, by omega, by go_num, hown5, HS2, hb6⟩
        case measure => simp [intOf]; omega
    · have HU : Hid (acc = uniqL [] h) := Lib.hid (by rw [HE.out, drop_end (by rw [HL.out]; omega)]; rfl)
      rw [HU.out] at ho3
      have CS := hide (isort_own ho3 hbw.size (by omega))
      clear ho3 HE
      go_wp2_with fail
      refine (unhide CS).mono ?_
      rintro e w4 ⟨rfl, ho4, _, hb4⟩
      rw [HD.out] at ho4
      go_wp2
      go_ret
      exact ⟨_, _, rfl, ho4, by omega, hbw.trans hb4⟩

/-! ### Along an order. -/
theorem alongL_snoc (D : List HOp) {o : List Int} {k : Nat} {x : Int} (h : o[k]? = some x) : alongL D (o.take (k + 1)) = alongL D (o.take k) ++ ownL D x := by
  rw [List.take_add_one, h, alongL_append]
  simp [alongL]
set_option maxRecDepth 100000 in
set_option maxHeartbeats 4000000 in
theorem along_any (A B : Option Addr) (n m c d : Nat) (h : List HOp) (o : List Int) (w : World) (hr : Rd w w.heap.size 3 A n (cellsH h)) (ho : Rd w w.heap.size 1 B m (cellsI o)) (hn : n ≤ 1000) (hm : m ≤ 1000) :
    Calls Tryz.prog 34 #[.slice A n c, .slice B m d] w fun e w' => ∃ v q, e = .returned v ∧ w'.ownsRow w.heap.size 54 3 v q (cellsH (alongL h o)) ∧ q ≤ m * n ∧ Below w.heap.size w w' := by
  have HL := Lib.hid ho.ilen
  have CO := hide (fun t w1 (hb : Below w.heap.size w w1) => own_any A n c h t w1 ((hr.below hb).more hb.size) (by omega))
  go_enter Tryz.func34, Tryz.ntmps34
  go_wp2
  go_loopw [5, 10] (fun s5 s10 wr => ∃ k q : Nat, k ≤ m ∧ q ≤ k * n ∧ s10 = .int .i64 k ∧ wr.ownsRow w.heap.size 54 3 s5 q (cellsH (alongL h (o.take k))) ∧ Below w.heap.size w wr) (fun _ s10 _ => m - (intOf s10).toNat)
  case atStart => exact ⟨0, 0, Nat.zero_le _, Nat.zero_le _, rfl, World.ownsRow_nil _ _ _ _, Below.refl _ _⟩
  case round =>
    obtain ⟨k, q, hk, hq, rfl, ho5, hbw⟩ := hrel
    obtain ⟨A5, c5, rfl⟩ := own_slice ho5
    by_cases hlt : k < m
    · obtain ⟨b, off, x, he, hb, hx, c0⟩ := (ho.below hbw).int (k := k) hlt
      cases he
      have HS := Lib.hid (alongL_snoc h hx)
      have C1 := hide (unhide CO x wr hbw)
      have hz := hbw.size
      clear hx
      have hkn : k * n ≤ 1000 * 1000 := Nat.mul_le_mul (by omega) hn
      have hk1 : (k + 1) * n = k * n + n := Nat.succ_mul k n
      go_wp2_with fail
      refine (unhide C1).mono ?_
      rintro e w2 ⟨A2, m2, c2, rfl, ho2, hb2⟩
      have hm2 : m2 ≤ n := by
        have h1 := (rd_own ho2).hlen
        have h2 := ownL_len h x
        have h3 := hr.hlen
        omega
      have ho5' := own_below ho5 hb2 (Nat.le_refl _)
      have hbw2 := hbw.trans (hb2.mono hbw.size)
      have hd2 := rd_own ho2
      clear C1 ho5 ho2 hb2
      go_wp2_with (at_builtin; refine wpList_app rfl (.tmp 14) (.tmp 17) _ rfl w.heap.size slt_op (n := q) (xs := cellsH (alongL h (o.take k))) (m := m2) (news := cellsH (ownL h x)) rfl ho5' rfl hd2 (oneH _) (by omega) hbw2.size ?_; intro v7 w7 hown7 hg7 hb7 hat7 hne7)
      have hb8 := hbw2.trans hb7
      rw [← cellsH_append, ← HS.out] at hown7
      go_roundw
      case rel => exact ⟨k + 1, q + m2, by omega, by omega, by go_num, hown7, hb8⟩
      case measure => simp [intOf]; omega
    · have HT : Hid (o.take k = o) := Lib.hid (List.take_of_length_le (by rw [HL.out]; omega))
      rw [HT.out] at ho5
      obtain rfl : k = m := by omega
      go_wp2
      go_ret
      exact ⟨_, _, rfl, ho5, hq, hbw⟩
end Go.Proofs.YtmehghkpghbpjaaGreat


namespace Go.Proofs.YtmehghkpghbpjaaGreat
open Go.RowKit Go.Shelf

attribute [local go_sem] Oper.semAt_some

def iVals (x : Int) : Array Value := #[.int .i64 x]
set_option maxRecDepth 100000 in
set_option maxHeartbeats 2000000 in
theorem values1_in (F : Fence) (n : Nat) (hF : F.fn 64) (hro : F.round = none) (hn : 1 ≤ n) (l Bs n₀ len cap : Nat) (A : Option Addr) (xs : List Int) (hm : len ≤ 17592186043904) (_hBn : Bs < n₀) (J Jx : List Int → World → Prop)
    (hY : ∀ pre x W, J pre W → pre.length < len → YieldAt F (n - 1) Tryz.prog l (iVals x) W fun e W' =>
      (e = .returned (.bool true) ∧ J (pre ++ [x]) W' ∧ Below n₀ W W') ∨ (e = .returned (.bool false) ∧ Jx (pre ++ [x]) W'))
    (W : World) (hBs : W.cell? ⟨Bs, 0, none⟩ = some (.slice A len cap)) (hr : Rd W n₀ 1 A len (cellsI xs)) (h0 : J [] W) :
    CallsIn F n Tryz.prog 64 #[.func (.yield l) #[] #[], .pointer (some ⟨Bs, 0, none⟩)] W fun e W' => (∃ v, e = .returned v) ∧
      ((∃ ys, ys = xs ∧ J ys W') ∨ (∃ pre, pre <+: xs ∧ Jx pre W')) := by
  have HL := Lib.hid hr.ilen
  refine callsIn_of_wp Tryz.func64 rfl hF ?_ hro
  simp only [Tryz.ntmps64, List.size_toArray, List.length_cons, List.length_nil, Nat.reduceAdd, Nat.reduceSub, Array.replicate_succ, Array.replicate_zero, List.push_toArray, List.append_toArray, List.nil_append, List.cons_append]
  gi_wp2
  gi_loopw [7] (fun i wr => ∃ k : Nat, k ≤ len ∧ i = .int .i64 k ∧ J (xs.take k) wr ∧ Below n₀ W wr)
    (fun i _ => len - (intOf i).toNat)
  case atStart => exact ⟨0, Nat.zero_le _, rfl, by simpa using h0, Below.refl _ _⟩
  case round =>
    obtain ⟨k, hk, rfl, hJs, hnx⟩ := hrel
    by_cases hlt : k < len
    · obtain ⟨b, off, x, rfl, hb, hx, c0⟩ := (hr.below hnx).int (k := k) hlt
      have HT := Lib.hid (show xs.take (k + 1) = xs.take k ++ [x] by rw [List.take_add_one, hx]; rfl)
      obtain ⟨fn, tmps, assign, body, hy, hR⟩ := hY _ x wr hJs (by rw [List.length_take]; omega)
      have HR := hide hR
      dsimp only [iVals] at hy
      clear hx hR
      gi_wp2
      refine (unhide HR).mono ?_
      rintro e W3 (⟨rfl, hJ3, hk3⟩ | ⟨rfl, hJx3⟩)
      · gi_wp2
        go_roundw
        case rel => exact ⟨k + 1, by omega, by go_num, by rw [HT.out]; exact hJ3, hnx.trans hk3⟩
        case measure => simp [intOf]; omega
      · gi_wp2
        refine bodyPost_ret (results_none rfl _ _ _) rfl ?_
        exact ⟨⟨_, rfl⟩, .inr ⟨_, HT.out ▸ List.take_prefix _ _, hJx3⟩⟩
    · have HZ : Hid (xs.take k = xs) := Lib.hid (List.take_of_length_le (by rw [HL.out]; omega))
      gi_wp2
      go_end0
      exact ⟨⟨_, rfl⟩, .inl ⟨_, rfl, HZ.out ▸ hJs⟩⟩

set_option maxHeartbeats 400000 in
theorem values_any' (A : Option Addr) (len cap : Nat) (w : World) :
    Calls Tryz.prog 32 #[.slice A len cap] w fun e w' => e = .returned (.func (.func 64) #[] #[.pointer (some ⟨w.heap.size, 0, none⟩)]) ∧ w' = w.alloc (.cells #[.slice A len cap] 28) := by
  go_enter Tryz.func32, Tryz.ntmps32
  go_wp2
  go_ret
  exact ⟨rfl, rfl⟩
theorem values_stops (F : Fence) (n : Nat) (hF : F.fn 64) (hro : F.round = none) (hn : 1 ≤ n) (Bs n₀ len cap : Nat) (A : Option Addr) (xs : List Int) (hm : len ≤ 17592186043904) (hBn : Bs < n₀) (w : World)
    (hn₀ : n₀ ≤ w.heap.size) (hBs : w.cell? ⟨Bs, 0, none⟩ = some (.slice A len cap)) (hr : Rd w n₀ 1 A len (cellsI xs)) :
    SeqStopsK F n Tryz.prog 64 #[.pointer (some ⟨Bs, 0, none⟩)] iVals (Below n₀) (fun ys => ys = xs) (fun pre => pre <+: xs) len w := fun l J Jx W hW _ _ hY h0 =>
  values1_in F n hF hro hn l Bs n₀ len cap A xs hm hBn J Jx hY W ((hW.cell (p := ⟨Bs, 0, none⟩) (Nat.lt_of_lt_of_le hBn hn₀)).trans hBs) (hr.below (hW.mono hn₀)) h0

theorem own_setb {w : World} {base : Nat} {e t : TypeId} {size : Nat} {v : Value} {n g : Nat} {xs cs : List Value} (h : w.ownsRow base e size v n xs) (hB : Blk w g t cs) (hne : t ≠ e) (i : Nat) (u : Value) : (w.setCell ⟨g, i, none⟩ u).ownsRow base e size v n xs := by
  refine h.kept (row := some g) ⟨rfl, rfl, rfl, by simp [World.setCell], fun k _ hk => Below.heap_setCell w _ u k (fun e => hk (by rw [e]))⟩ ?_
  rcases h.2 with ⟨rfl, _⟩ | ⟨g', cap, cur, rfl, _, hh, _⟩
  · exact .inl rfl
  · right
    intro he
    simp [Value.ownBlock] at he
    subst he
    unfold Blk at hB
    rw [hB] at hh
    injection hh with hh
    injection hh with _ ht
    exact hne ht
/-! ### AppendSeq. -/
def ApI (bx base : Nat) (s : List Int) (W : World) : Prop := ∃ v, Blk W bx 28 [v] ∧ W.ownsRow base 3 1 v s.length (cellsI s)
theorem apI_own (B bx base : Nat) : OwnFrom B (ApI bx base) := fun s X Y row hs hg hrow => by
  obtain ⟨v, h1, h2⟩ := hs
  refine ⟨v, (hg.block bx h1.lt (fun e => ?_)).trans h1, h2.kept hg ?_⟩
  · obtain ⟨_, o, ho, hc⟩ := hrow bx e.symm
    rw [show X.heap[bx]? = _ from h1] at ho; cases ho; cases hc
  · rcases h2.2 with ⟨rfl, _⟩ | ⟨g, cap, cur, rfl, _, hh, _⟩
    · exact .inl rfl
    · right
      intro e
      obtain ⟨_, o, ho, hc⟩ := hrow g (by simpa [Value.ownBlock] using e.symm)
      rw [hh] at ho; cases ho; cases hc
set_option maxRecDepth 100000 in
set_option maxHeartbeats 2000000 in
theorem appendSeq_vals (Bs len cap : Nat) (A : Option Addr) (xs : List Int) (w : World) (hBl : Bs < w.heap.size) (hBs : w.cell? ⟨Bs, 0, none⟩ = some (.slice A len cap)) (hr : Rd w w.heap.size 1 A len (cellsI xs)) (hm : len ≤ 17592186043904) :
    Calls Tryz.prog 99 #[.slice none 0 0, .func (.func 64) #[] #[.pointer (some ⟨Bs, 0, none⟩)]] w fun e w' => ∃ v, e = .returned v ∧ w'.ownsRow w.heap.size 3 1 v xs.length (cellsI xs) ∧ Below w.heap.size w w' := by
  have HL := Lib.hid hr.ilen
  refine (callsIn_wide (n := 5)).1 ?_
  refine callsIn_of_wp_marks Tryz.func99 rfl trivial ?_ rfl
  simp only [Tryz.ntmps99, List.size_toArray, List.length_cons, List.length_nil, Nat.reduceAdd, Nat.reduceSub, Array.replicate_succ, Array.replicate_zero, List.push_toArray, List.append_toArray, List.nil_append, List.cons_append]
  gi_wp2
  have hb0 : Below w.heap.size w (w.alloc (.cells #[.slice none 0 0] 28)) := (Below.refl _ _).alloc (Nat.le_refl _) _
  have kb : Blk (w.alloc (.cells #[.slice none 0 0] 28)) w.heap.size 28 [.slice none 0 0] := Blk.new w _ _
  have kS := (hb0.cell (p := ⟨Bs, 0, none⟩) hBl).trans hBs
  have hr0 := hr.below hb0
  generalize w.alloc (.cells #[.slice none 0 0] 28) = W0 at *
  refine wpIn_rangeFunc_ownH rfl (by omega) (gf := 64) (lb := #[.pointer (some ⟨Bs, 0, none⟩)]) rfl trivial (enters_of Tryz.func64 (by kernel_rfl) rfl)
    (values_stops Fence.wide (5 - 1) trivial rfl (by omega) Bs w.heap.size len cap A xs hm hBl W0 hb0.size kS hr0) belowK_t (belowK_b hb0.size) (Below.refl _ _) (fun _ => rfl)
    (fun pre W => ApI w.heap.size w.heap.size pre W ∧ Below w.heap.size w W)
    (fun _ _ _ => False)
    (OwnFrom.and (apI_own _ _ _) (ownFrom_below (Nat.le_refl _) hb0.size))
    (fun _ => ownFrom_pure _ (fun _ => False))
    ⟨⟨_, kb, World.ownsRow_nil _ _ _ _⟩, hb0⟩
    (fun y a' _ => a' = { tmps := #[.slice none 0 0, .func (.func 64) #[] #[.pointer (some ⟨Bs, 0, none⟩)], .pointer (some ⟨w.heap.size, 0, none⟩), undef, .slice none 0 0, .int .i64 y, .func (.func 64) #[] #[.pointer (some ⟨Bs, 0, none⟩)], .int .i64 y, undef, undef, undef, undef, undef], defers := [] })
    (fun y a' _ X Y row hs hg hrow => hs)
    ?assign ?body ?done ?stop
  case assign =>
    rintro l pre y W K ⟨hp, hB⟩ hK
    dsimp only [iVals]
    gi_wp2
    exact hK _ _ ((KeepsOthers.refl _).from _) (Below.refl _ W) ⟨hp, hB⟩ rfl
  case body =>
    rintro l pre y a' W hl ⟨r, hr1⟩ ⟨⟨v, hB1, hown⟩, hB⟩ rfl hlt
    obtain ⟨i0, z, ht, hi, hz, hsize, hby, hzs, h0, hb0', _⟩ := slt_int
    have e0 := hB1.cellS (i := 0) (v := v) rfl
    have f0 := hB1.frozen 0
    have hWz : w.heap.size ≤ W.heap.size := hB.size
    gi_wp2_with (gi_at_builtin; refine wpListIn_append_own _ rfl _ _ 28 rfl w.heap.size 3 i0 z 1 8 ht hi hz hsize hby hzs (by decide) v pre.length (cellsI pre) rfl (hown.alloc _) ⟨W.heap.size, 0, none⟩ 1 1 [.int .i64 y] rfl rfl (cell_one_new _ _ _) (by simp [Value.oneCell']) (by unfold maxLen; omega) (by omega) (by simp; omega) ?_; intro v3 w3 hown3 hg3 hnil3; obtain ⟨A3, c3, rfl⟩ := own_slice hown3; have hB3 := (hB1.alloc (.cells #[.int .i64 y] 3)).other (hown.alloc (.cells #[.int .i64 y] 3)) (by decide) hg3; have e3 := hB3.cellS (i := 0) (v := v) rfl; have f3 := hB3.frozen 0)
    have hgb : ∀ (j : Nat) (o : Obj), v.ownBlock = some j → (W.alloc (.cells #[.int .i64 y] 3)).heap[j]? = some o → o.isCells = true := fun j o hj ho => by
      rcases (hown.alloc (.cells #[.int .i64 y] 3)).2 with ⟨rfl, _⟩ | ⟨g, cap', cur, rfl, _, hh, _⟩
      · simp [Value.ownBlock] at hj
      · simp [Value.ownBlock] at hj
        subst hj
        rw [hh] at ho
        cases ho
        rfl
    have hblk : ∀ k, v.ownBlock = some k → w.heap.size ≤ k := fun k hk => (hown.lt k hk).1
    have hbw3 : Below w.heap.size W w3 := (((Below.refl w.heap.size W).alloc hWz (.cells #[.int .i64 y] 3)).grown hg3 (by simp; omega) hblk)
    have hco : cellsI pre ++ [Value.int .i64 y] = cellsI (pre ++ [y]) := by simp [cellsI]
    rw [hco] at hown3
    have hB4 := hB3.put 0 (.slice A3 (pre.length + 1) c3)
    have hown4 := own_setb hown3 hB3 (by decide) 0 (.slice A3 (pre.length + 1) c3)
    refine ⟨(((KeepsOthers.alloc _ _).trans (KeepsOthers.of_grownBy hg3 hgb)).trans (KeepsOthers.setCell _ _ _)).from _, hbw3.setCell (Nat.le_refl _) _, ⟨_, hB4, by rw [List.length_append]; exact hown4⟩, (hB.trans hbw3).setCell (Nat.le_refl _) _⟩
  case done =>
    rintro D ys W hD rfl ⟨⟨v, hB1, hown⟩, hB⟩ hK
    have e0 := hB1.cellS (i := 0) (v := v) rfl
    have f0 := hB1.frozen 0
    gi_wp2
    refine ⟨by simp, .inl ⟨_, _, rfl, run_takeDeferred hK, ?_⟩⟩
    have hDz : w.heap.size ≤ D := Nat.le_trans hb0.size hD
    refine ⟨v, by simp [results, Tryz.f99, go_sem], v, rfl, ?_, hB.trans (belowK_b (w := w) (Nat.le_refl _) W D _ _ hDz hK rfl rfl)⟩
    refine hown.kept (grownBy_putObj' W D (.deferred none)) ?_
    rcases hown.2 with ⟨rfl, _⟩ | ⟨g, cap', cur, rfl, _, hh, _⟩
    · exact .inl rfl
    · right
      intro e
      simp [Value.ownBlock] at e
      subst e
      rw [hh] at hK
      cases hK
  case stop =>
    rintro D c pre W hD hpre hF hK
    exact hF.elim

/-! ### Collect, Sorted. -/
set_option maxHeartbeats 1000000 in
theorem collect_vals (Bs len cap : Nat) (A : Option Addr) (xs : List Int) (w : World) (hBl : Bs < w.heap.size) (hBs : w.cell? ⟨Bs, 0, none⟩ = some (.slice A len cap)) (hr : Rd w w.heap.size 1 A len (cellsI xs)) (hm : len ≤ 17592186043904) :
    Calls Tryz.prog 62 #[.func (.func 64) #[] #[.pointer (some ⟨Bs, 0, none⟩)]] w fun e w' => ∃ v, e = .returned v ∧ w'.ownsRow w.heap.size 3 1 v xs.length (cellsI xs) ∧ Below w.heap.size w w' := by
  have C := hide (appendSeq_vals Bs len cap A xs w hBl hBs hr hm)
  clear hr hBs
  go_enter Tryz.func62, Tryz.ntmps62
  go_wp2_with fail
  refine (unhide C).mono ?_
  rintro e w1 ⟨v1, rfl, ho1, hb1⟩
  obtain ⟨A1, c1, rfl⟩ := own_slice ho1
  go_wp2
  go_ret
  exact ⟨_, rfl, ho1, hb1⟩
set_option maxRecDepth 100000 in
set_option maxHeartbeats 1000000 in
theorem sortedV_any (Bs len cap : Nat) (A : Option Addr) (xs : List Int) (w : World) (hBl : Bs < w.heap.size) (hBs : w.cell? ⟨Bs, 0, none⟩ = some (.slice A len cap)) (hr : Rd w w.heap.size 1 A len (cellsI xs)) (hm : len ≤ 17592186043904) :
    Calls Tryz.prog 31 #[.func (.func 64) #[] #[.pointer (some ⟨Bs, 0, none⟩)]] w fun e w' => ∃ v, e = .returned v ∧ w'.ownsRow w.heap.size 3 1 v xs.length (cellsI (sortI xs)) ∧ Below w.heap.size w w' := by
  have hl := hr.ilen
  have C := hide (collect_vals Bs len cap A xs w hBl hBs hr hm)
  clear hr hBs
  go_enter Tryz.func31, Tryz.ntmps31
  go_wp2_with fail
  refine (unhide C).mono ?_
  rintro e w1 ⟨v1, rfl, ho1, hb1⟩
  obtain ⟨A1, c1, rfl⟩ := own_slice ho1
  have hlt : xs.length < 4611686018427387904 := by rw [hl]; omega
  have CS := hide (isort_own ho1 hb1.size hlt)
  clear C ho1 hlt hl
  go_wp2_with fail
  refine (unhide CS).mono ?_
  rintro e w2 ⟨rfl, ho2, _, hb2⟩
  go_wp2
  go_ret
  exact ⟨_, rfl, ho2, hb1.trans hb2⟩
end Go.Proofs.YtmehghkpghbpjaaGreat


namespace Go.Proofs.YtmehghkpghbpjaaGreat
open Go.RowKit Go.Shelf

def serE (h : List HOp) (o : List Int) : Int := if (checkF h).2 ≠ 0 then (checkF h).2 else if sortI o = dealsL (doneL h) then 0 else 3
def serL (h : List HOp) (o : List Int) : List HOp := if serE h o = 0 then alongL (doneL h) o else []
theorem dealsL_len {D : List HOp} (ht : ∀ o ∈ D, 1 ≤ o.tx ∧ o.tx ≤ 6) : (dealsL D).length ≤ 6 := by
  have := nodup_sub_len (dealsL D) [1, 2, 3, 4, 5, 6] (dealsL_nodup D) fun x hx => by
    obtain ⟨o, h1, rfl⟩ := mem_dealsL.1 hx
    have := ht o h1
    simp
    omega
  simpa using this
theorem serL_len {h : List HOp} {o : List Int} (hk : okH h) (hs : serE h o = 0) : o.length ≤ 6 := by
  unfold serE at hs
  rw [if_neg (fun e => e hk)] at hs
  split at hs
  · rename_i e
    have h1 := dealsL_len (done_tx (okH_tx hk))
    rw [← e, sortI_len] at h1
    exact h1
  · cases hs
set_option maxRecDepth 100000 in
set_option maxHeartbeats 4000000 in
theorem serial_any (A B : Option Addr) (n m c d : Nat) (h : List HOp) (o : List Int) (w : World) (hr : Rd w w.heap.size 3 A n (cellsH h)) (ho : Rd w w.heap.size 1 B m (cellsI o)) (hn : n ≤ 6000000000000) (hm : m ≤ 17592186043904) :
    Calls Tryz.prog 9 #[.slice A n c, .slice B m d] w fun e w' => ∃ v q, e = .returned (.tuple #[v, errV (serE h o)]) ∧ w'.ownsRow w.heap.size 54 3 v q (cellsH (serL h o)) ∧ q ≤ 240 ∧ Below w.heap.size w w' := by
  have C0 := hide (right_h A n c h w hr hn)
  have hl := ho.ilen
  by_cases hok : okH h
  · have hn40 : n ≤ 40 := by rw [← hr.hlen]; exact okH_len hok
    have hdl : (doneL h).length ≤ 40 := by
      have h1 := okH_len hok
      have := List.length_filter_le (fun o : HOp => (flagsF h).getD o.tx.toNat false) h
      unfold doneL; omega
    have HE : Hid (serE h o = if sortI o = dealsL (doneL h) then 0 else 3) := Lib.hid (by unfold serE; rw [if_neg (fun e => e hok)])
    have HLL : Hid (serE h o = 0 → m ≤ 6) := Lib.hid (fun e => by rw [← hl]; exact serL_len hok e)
    have HSL : Hid (serL h o = if serE h o = 0 then alongL (doneL h) o else []) := Lib.hid rfl
    have CD := hide (fun w1 (hb : Below w.heap.size w w1) => doneOf_any A n c h w1 ((hr.below hb).more hb.size) (by omega) (okH_tx hok))
    have HO := hide (fun w1 (hb : Below w.heap.size w w1) => (ho.below hb).more hb.size)
    rw [show (checkF h).2 = 0 from hok, errV_zero] at C0
    have HOL := Lib.hid hl
    clear hok hr hl
    clear ho
    generalize doneL h = D at *
    generalize serL h o = L at *
    generalize serE h o = E at *
    go_enter Tryz.func9, Tryz.ntmps9
    go_wp2_with fail
    refine (unhide C0).mono ?_
    rintro e w1 ⟨rfl, hb1⟩
    have C1 := hide (unhide CD w1 hb1)
    clear C0 CD
    go_wp2_with fail
    refine (unhide C1).mono ?_
    rintro e w2 ⟨A2, m2, c2, rfl, ho2, hb2⟩
    have hbw2 := hb1.trans (hb2.mono hb1.size)
    have hd2 := rd_own ho2
    have hm2 : m2 ≤ 40 := by rw [← hd2.hlen]; exact hdl
    clear C1 ho2 hb2 hdl
    go_wp2_with fail
    refine (values_any' B m d w2).mono ?_
    rintro e w3 ⟨rfl, rfl⟩
    have hb3 : Below w2.heap.size w2 (w2.alloc (.cells #[.slice B m d] 28)) := (Below.refl _ _).alloc (Nat.le_refl _) _
    have hbw3 := hbw2.trans (hb3.mono hbw2.size)
    have kb := Blk.new w2 28 [.slice B m d]
    have kz : w2.heap.size < (w2.alloc (.cells #[.slice B m d] 28)).heap.size := by simp
    have CS := hide (sortedV_any w2.heap.size m d B o (w2.alloc (.cells #[.slice B m d] 28)) kz (kb.cellS rfl) (unhide HO _ hbw3) hm)
    have hd3 := (hd2.below hb3).more hb3.size
    clear kb kz hb3 hd2
    go_wp2_with fail
    refine (unhide CS).mono ?_
    rintro e w4 ⟨v4, rfl, ho4, hb4⟩
    obtain ⟨A4, c4, rfl⟩ := own_slice ho4
    have hd4 := rd_own ho4
    have hbw4 := hbw3.trans (hb4.mono hbw3.size)
    have hd24 := (hd3.below hb4).more hb4.size
    have CDO := hide (dealsOf_any A2 m2 c2 D w4 hd24 (by omega))
    clear CS ho4 hb4 hbw3 hd3
    go_wp2_with fail
    refine (unhide CDO).mono ?_
    rintro e w5 ⟨v5, m5, rfl, ho5, hm5, hb5⟩
    obtain ⟨A5, c5, rfl⟩ := own_slice ho5
    have hd5 := rd_own ho5
    have hbw5 := hbw4.trans (hb5.mono hbw4.size)
    have hd45 := (hd4.below hb5).more hb5.size
    have hd25 := (hd24.below hb5).more hb5.size
    have CQ := hide (equalI_any A4 A5 o.length m5 c4 c5 (sortI o) (dealsL D) w5 hd45 hd5 (by rw [HOL.out]; exact hm))
    clear CDO ho5 hb5 hd4 hd24 hbw4
    by_cases hs : sortI o = dealsL D
    · have HE0 : Hid (E = 0) := Lib.hid (by rw [HE.out, if_pos hs])
      have hm6 := HLL.out HE0.out
      have HL0 : Hid (L = alongL D o) := Lib.hid (by rw [HSL.out, if_pos HE0.out])
      rw [decide_eq_true hs] at CQ
      clear hs HE HLL HSL
      go_wp2_with fail
      refine (unhide CQ).mono ?_
      rintro e w6 ⟨rfl, hb6⟩
      have hbw6 := hbw5.trans (hb6.mono hbw5.size)
      have CA := hide (along_any A2 B m2 m c2 d D o w6 ((hd25.below hb6).more hb6.size) (unhide HO w6 hbw6) (by omega) (by omega))
      clear CQ hb6 hd25 hd45 hd5 hbw5
      go_wp2_with fail
      refine (unhide CA).mono ?_
      rintro e w7 ⟨v7, q, rfl, ho7, hq, hb7⟩
      obtain ⟨A7, c7, rfl⟩ := own_slice ho7
      have hq2 : m * m2 ≤ 6 * 40 := Nat.mul_le_mul hm6 hm2
      go_wp2
      go_ret2
      exact ⟨_, q, by rw [HE0.out, errV_zero]; rfl, by rw [HL0.out]; exact own_mono ho7 hbw6.size, by omega, hbw6.trans (hb7.mono hbw6.size)⟩
    · have HE0 : Hid (E = 3) := Lib.hid (by rw [HE.out, if_neg hs])
      have HL0 : Hid (L = []) := Lib.hid (by rw [HSL.out, if_neg (by rw [HE0.out]; decide)])
      rw [decide_eq_false hs] at CQ
      clear hs HE HLL HSL
      go_wp2_with fail
      refine (unhide CQ).mono ?_
      rintro e w6 ⟨rfl, hb6⟩
      have hbw6 := hbw5.trans (hb6.mono hbw5.size)
      go_wp2
      go_ret2
      exact ⟨_, 0, by rw [HE0.out]; rfl, by rw [HL0.out]; exact World.ownsRow_nil _ _ _ _, by omega, hbw6⟩
  · have hc : (checkF h).2 ≠ 0 := hok
    have HE : Hid (serE h o = (checkF h).2 ∧ serL h o = []) := Lib.hid (by
      have e : serE h o = (checkF h).2 := by unfold serE; rw [if_pos hc]
      exact ⟨e, by unfold serL; rw [e, if_neg hc]⟩)
    rw [HE.out.1, HE.out.2, ne_errV (show (checkF h).2 ≠ 0 from hok)]
    rw [ne_errV (show (checkF h).2 ≠ 0 from hok)] at C0
    clear HE
    generalize (checkF h).2 = ev at *
    clear hok hc hl
    go_enter Tryz.func9, Tryz.ntmps9
    go_wp2_with fail
    refine (unhide C0).mono ?_
    rintro e w1 ⟨rfl, hb1⟩
    go_wp2
    go_ret2
    exact ⟨_, 0, rfl, World.ownsRow_nil _ _ _ _, by omega, hb1⟩
end Go.Proofs.YtmehghkpghbpjaaGreat
