
/-
  CONTRACTS of history.Own, slices.Equal at ops, odds.SameDeals.
  CONTRACTS of slices.Values at numbers (a range over a function), AppendSeq, Collect, Sorted over it.
-/
import Derived.Test.YtmehghkpghbpjaaGreatQ7
import Derived.Test.YtmehghkpghbpjaaGreatQ1
import Derived.Test.YtmehghkpghbpjaaGreatQ32
import Derived.Test.YtmehghkpghbpjaaGreatQ8

namespace Go.Proofs.YtmehghkpghbpjaaGreat
open Go.RowKit

theorem own1_any (o : HOp) (tx : Int) (g : Nat) (w : World) (hB : Blk w g 3 [.int .i64 tx]) :
    Calls Tryz.prog 102 #[o.val, .pointer (some ⟨g, 0, none⟩)] w fun e w' => e = .returned (.bool (!decide (o.tx = tx))) ∧ Below w.heap.size w w' := by
  obtain ⟨a, what, item⟩ := o
  have hlt := hB.lt
  have c0 : (w.alloc (.cells #[.int .i64 a, .int .i64 what, .int .i64 item] 54)).cell? ⟨g, 0, none⟩ = some (.int .i64 tx) := (hB.alloc _).cellS rfl
  have HR : Hid ((a != tx) = !decide (a = tx)) := Lib.hid (by by_cases h : a = tx <;> simp [h])
  clear hB
  unfold HOp.val
  go_enter Tryz.func102, Tryz.ntmps102
  go_wp2
  go_ret
  exact ⟨ret_bool HR.out, (Below.refl _ _).alloc (Nat.le_refl _) _⟩
theorem call_own1 (args : Array Value) (w : World) : (callFunc 102 args).run Tryz.prog w = .ok (.enter 102 args) w := by kernel_rfl

set_option maxHeartbeats 1000000 in
theorem own_any (A : Option Addr) (n cap : Nat) (h : List HOp) (tx : Int) (w : World) (hr : Rd w w.heap.size 3 A n (cellsH h)) (hm : n ≤ 1000000) :
    Calls Tryz.prog 66 #[.slice A n cap, .int .i64 tx] w fun e w' => ∃ A' m c', e = .returned (.slice A' m c') ∧ w'.ownsRow w.heap.size 54 3 (.slice A' m c') m (cellsH (ownL h tx)) ∧ Below w.heap.size w w' := by
  have hB := Blk.new w 3 [.int .i64 tx]
  have hb0 : Below w.heap.size w (w.alloc (.cells #[.int .i64 tx] 3)) := (Below.refl _ _).alloc (Nat.le_refl _) _
  have C1 := hide (clone_op A n cap (cellsH h) _ ((hr.below hb0).more hb0.size) (oneH h) (by omega))
  have HB := hide hB
  have HB0 := hide hb0
  clear hB hb0
  go_enter Tryz.func66, Tryz.ntmps66
  go_wp2_with fail
  refine (unhide C1).mono ?_
  rintro e w1 ⟨v1, rfl, hown1, hb1⟩
  obtain ⟨A1, c1, rfl⟩ := own_slice hown1
  have hz1 : w.heap.size + 1 ≤ w1.heap.size := by have := hb1.size; simpa using this
  have hbw1 := (unhide HB0).trans (hb1.mono (unhide HB0).size)
  have hB1 := (unhide HB).below hb1 (unhide HB).lt
  have C2 := hide (deleteFunc_op A1 n c1 (w.heap.size + 1) h 102 #[.pointer (some ⟨w.heap.size, 0, none⟩)] (fun o => !decide (o.tx = tx)) w1 (own_mono hown1 (by simp)) hz1 (by omega) call_own1 (fun o ho w' hw' => own1_any o tx w.heap.size w' (hB1.below hw' (by omega))))
  clear C1 hb1 HB HB0 hown1
  go_wp2_with fail
  refine (unhide C2).mono ?_
  rintro e w2 ⟨m, rfl, hown2, hb2⟩
  have HQ : Hid (cellsH (ownL h tx) = cellsH (h.filter fun o => !!decide (o.tx = tx))) := Lib.hid (by unfold ownL; simp)
  rw [← HQ.out] at hown2
  have hbw2 := hbw1.trans (hb2.mono (by omega))
  clear C2 hb2 HQ
  go_wp2
  go_ret
  exact ⟨A1, m, c1, rfl, own_mono hown2 (by omega), hbw2⟩

/-! ### slices.Equal at ops. -/
/-! ### odds.SameDeals -/
theorem ownL_len (h : List HOp) (t : Int) : (ownL h t).length ≤ h.length := List.length_filter_le _ _
def sameGo (h g : List HOp) : Nat → Int → Bool
  | 0, _ => true
  | r + 1, t => decide (ownL h t = ownL g t) && sameGo h g r (t + 1)
theorem sameGo_eq (h g : List HOp) : sameGo h g 6 1 = sameOwnB h g := by
  unfold sameOwnB
  simp only [sameGo, List.all_cons, List.all_nil]
  rfl
end Go.Proofs.YtmehghkpghbpjaaGreat


namespace Go.Proofs.YtmehghkpghbpjaaGreat
open Go.RowKit Go.Shelf

attribute [local go_sem] Oper.semAt_some

def iVals (x : Int) : Array Value := #[.int .i64 x]
set_option maxRecDepth 100000 in
set_option maxHeartbeats 2000000 in
theorem values1_in (F : Fence) (n : Nat) (hF : F.fn 64) (hro : F.round = none) (hn : 1 ≤ n) (l Bs n₀ len cap : Nat) (A : Option Addr) (xs : List Int) (hm : len ≤ 17592186043904) (_hBn : Bs < n₀) (J Jx : List Int → World → Prop)
    (hY : ∀ pre x W, J pre W → pre.length < len → YieldAt F (n - 1) Tryz.prog l (iVals x) W fun e W' =>
      (e = .returned (.bool true) ∧ J (pre ++ [x]) W' ∧ Below n₀ W W') ∨ (e = .returned (.bool false) ∧ Jx (pre ++ [x]) W'))
    (W : World) (hBs : W.cell? ⟨Bs, 0, none⟩ = some (.slice A len cap)) (hr : Rd W n₀ 1 A len (cellsI xs)) (h0 : J [] W) :
    CallsIn F n Tryz.prog 64 #[.func (.yield l) #[] #[], .pointer (some ⟨Bs, 0, none⟩)] W fun e W' => (∃ v, e = .returned v) ∧
      ((∃ ys, ys = xs ∧ J ys W') ∨ (∃ pre, pre <+: xs ∧ Jx pre W')) := by
  have HL := Lib.hid hr.ilen
  refine callsIn_of_wp Tryz.func64 rfl hF ?_ hro
  simp only [Tryz.ntmps64, List.size_toArray, List.length_cons, List.length_nil, Nat.reduceAdd, Nat.reduceSub, Array.replicate_succ, Array.replicate_zero, List.push_toArray, List.append_toArray, List.nil_append, List.cons_append]
  gi_wp2
  gi_loopw [7] (fun i wr => ∃ k : Nat, k ≤ len ∧ i = .int .i64 k ∧ J (xs.take k) wr ∧ Below n₀ W wr)
    (fun i _ => len - (intOf i).toNat)
  case atStart => exact ⟨0, Nat.zero_le _, rfl, by simpa using h0, Below.refl _ _⟩
  case round =>
    obtain ⟨k, hk, rfl, hJs, hnx⟩ := hrel
    by_cases hlt : k < len
    · obtain ⟨b, off, x, rfl, hb, hx, c0⟩ := (hr.below hnx).int (k := k) hlt
      have HT := Lib.hid (show xs.take (k + 1) = xs.take k ++ [x] by rw [List.take_add_one, hx]; rfl)
      obtain ⟨fn, tmps, assign, body, hy, hR⟩ := hY _ x wr hJs (by rw [List.length_take]; omega)
      have HR := hide hR
      dsimp only [iVals] at hy
      clear hx hR
      gi_wp2
      refine (unhide HR).mono ?_
      rintro e W3 (⟨rfl, hJ3, hk3⟩ | ⟨rfl, hJx3⟩)
      · gi_wp2
        go_roundw
        case rel => exact ⟨k + 1, by omega, by go_num, by rw [HT.out]; exact hJ3, hnx.trans hk3⟩
        case measure => simp [intOf]; omega
      · gi_wp2
        refine bodyPost_ret (results_none rfl _ _ _) rfl ?_
        exact ⟨⟨_, rfl⟩, .inr ⟨_, HT.out ▸ List.take_prefix _ _, hJx3⟩⟩
    · have HZ : Hid (xs.take k = xs) := Lib.hid (List.take_of_length_le (by rw [HL.out]; omega))
      gi_wp2
      go_end0
      exact ⟨⟨_, rfl⟩, .inl ⟨_, rfl, HZ.out ▸ hJs⟩⟩

set_option maxHeartbeats 400000 in
theorem values_any' (A : Option Addr) (len cap : Nat) (w : World) :
    Calls Tryz.prog 32 #[.slice A len cap] w fun e w' => e = .returned (.func (.func 64) #[] #[.pointer (some ⟨w.heap.size, 0, none⟩)]) ∧ w' = w.alloc (.cells #[.slice A len cap] 28) := by
  go_enter Tryz.func32, Tryz.ntmps32
  go_wp2
  go_ret
  exact ⟨rfl, rfl⟩
theorem values_stops (F : Fence) (n : Nat) (hF : F.fn 64) (hro : F.round = none) (hn : 1 ≤ n) (Bs n₀ len cap : Nat) (A : Option Addr) (xs : List Int) (hm : len ≤ 17592186043904) (hBn : Bs < n₀) (w : World)
    (hn₀ : n₀ ≤ w.heap.size) (hBs : w.cell? ⟨Bs, 0, none⟩ = some (.slice A len cap)) (hr : Rd w n₀ 1 A len (cellsI xs)) :
    SeqStopsK F n Tryz.prog 64 #[.pointer (some ⟨Bs, 0, none⟩)] iVals (Below n₀) (fun ys => ys = xs) (fun pre => pre <+: xs) len w := fun l J Jx W hW _ _ hY h0 =>
  values1_in F n hF hro hn l Bs n₀ len cap A xs hm hBn J Jx hY W ((hW.cell (p := ⟨Bs, 0, none⟩) (Nat.lt_of_lt_of_le hBn hn₀)).trans hBs) (hr.below (hW.mono hn₀)) h0

theorem own_setb {w : World} {base : Nat} {e t : TypeId} {size : Nat} {v : Value} {n g : Nat} {xs cs : List Value} (h : w.ownsRow base e size v n xs) (hB : Blk w g t cs) (hne : t ≠ e) (i : Nat) (u : Value) : (w.setCell ⟨g, i, none⟩ u).ownsRow base e size v n xs := by
  refine h.kept (row := some g) ⟨rfl, rfl, rfl, by simp [World.setCell], fun k _ hk => Below.heap_setCell w _ u k (fun e => hk (by rw [e]))⟩ ?_
  rcases h.2 with ⟨rfl, _⟩ | ⟨g', cap, cur, rfl, _, hh, _⟩
  · exact .inl rfl
  · right
    intro he
    simp [Value.ownBlock] at he
    subst he
    unfold Blk at hB
    rw [hB] at hh
    injection hh with hh
    injection hh with _ ht
    exact hne ht
/-! ### AppendSeq. -/
def ApI (bx base : Nat) (s : List Int) (W : World) : Prop := ∃ v, Blk W bx 28 [v] ∧ W.ownsRow base 3 1 v s.length (cellsI s)
theorem apI_own (B bx base : Nat) : OwnFrom B (ApI bx base) := fun s X Y row hs hg hrow => by
  obtain ⟨v, h1, h2⟩ := hs
  refine ⟨v, (hg.block bx h1.lt (fun e => ?_)).trans h1, h2.kept hg ?_⟩
  · obtain ⟨_, o, ho, hc⟩ := hrow bx e.symm
    rw [show X.heap[bx]? = _ from h1] at ho; cases ho; cases hc
  · rcases h2.2 with ⟨rfl, _⟩ | ⟨g, cap, cur, rfl, _, hh, _⟩
    · exact .inl rfl
    · right
      intro e
      obtain ⟨_, o, ho, hc⟩ := hrow g (by simpa [Value.ownBlock] using e.symm)
      rw [hh] at ho; cases ho; cases hc
set_option maxRecDepth 100000 in
set_option maxHeartbeats 2000000 in
theorem appendSeq_vals (Bs len cap : Nat) (A : Option Addr) (xs : List Int) (w : World) (hBl : Bs < w.heap.size) (hBs : w.cell? ⟨Bs, 0, none⟩ = some (.slice A len cap)) (hr : Rd w w.heap.size 1 A len (cellsI xs)) (hm : len ≤ 17592186043904) :
    Calls Tryz.prog 99 #[.slice none 0 0, .func (.func 64) #[] #[.pointer (some ⟨Bs, 0, none⟩)]] w fun e w' => ∃ v, e = .returned v ∧ w'.ownsRow w.heap.size 3 1 v xs.length (cellsI xs) ∧ Below w.heap.size w w' := by
  have HL := Lib.hid hr.ilen
  refine (callsIn_wide (n := 5)).1 ?_
  refine callsIn_of_wp_marks Tryz.func99 rfl trivial ?_ rfl
  simp only [Tryz.ntmps99, List.size_toArray, List.length_cons, List.length_nil, Nat.reduceAdd, Nat.reduceSub, Array.replicate_succ, Array.replicate_zero, List.push_toArray, List.append_toArray, List.nil_append, List.cons_append]
  gi_wp2
  have hb0 : Below w.heap.size w (w.alloc (.cells #[.slice none 0 0] 28)) := (Below.refl _ _).alloc (Nat.le_refl _) _
  have kb : Blk (w.alloc (.cells #[.slice none 0 0] 28)) w.heap.size 28 [.slice none 0 0] := Blk.new w _ _
  have kS := (hb0.cell (p := ⟨Bs, 0, none⟩) hBl).trans hBs
  have hr0 := hr.below hb0
  generalize w.alloc (.cells #[.slice none 0 0] 28) = W0 at *
  refine wpIn_rangeFunc_ownH rfl (by omega) (gf := 64) (lb := #[.pointer (some ⟨Bs, 0, none⟩)]) rfl trivial (enters_of Tryz.func64 (by kernel_rfl) rfl)
    (values_stops Fence.wide (5 - 1) trivial rfl (by omega) Bs w.heap.size len cap A xs hm hBl W0 hb0.size kS hr0) belowK_t (belowK_b hb0.size) (Below.refl _ _) (fun _ => rfl)
    (fun pre W => ApI w.heap.size w.heap.size pre W ∧ Below w.heap.size w W)
    (fun _ _ _ => False)
    (OwnFrom.and (apI_own _ _ _) (ownFrom_below (Nat.le_refl _) hb0.size))
    (fun _ => ownFrom_pure _ (fun _ => False))
    ⟨⟨_, kb, World.ownsRow_nil _ _ _ _⟩, hb0⟩
    (fun y a' _ => a' = { tmps := #[.slice none 0 0, .func (.func 64) #[] #[.pointer (some ⟨Bs, 0, none⟩)], .pointer (some ⟨w.heap.size, 0, none⟩), undef, .slice none 0 0, .int .i64 y, .func (.func 64) #[] #[.pointer (some ⟨Bs, 0, none⟩)], .int .i64 y, undef, undef, undef, undef, undef], defers := [] })
    (fun y a' _ X Y row hs hg hrow => hs)
    ?assign ?body ?done ?stop
  case assign =>
    rintro l pre y W K ⟨hp, hB⟩ hK
    dsimp only [iVals]
    gi_wp2
    exact hK _ _ ((KeepsOthers.refl _).from _) (Below.refl _ W) ⟨hp, hB⟩ rfl
  case body =>
    rintro l pre y a' W hl ⟨r, hr1⟩ ⟨⟨v, hB1, hown⟩, hB⟩ rfl hlt
    obtain ⟨i0, z, ht, hi, hz, hsize, hby, hzs, h0, hb0', _⟩ := slt_int
    have e0 := hB1.cellS (i := 0) (v := v) rfl
    have f0 := hB1.frozen 0
    have hWz : w.heap.size ≤ W.heap.size := hB.size
    gi_wp2_with (gi_at_builtin; refine wpListIn_append_own _ rfl _ _ 28 rfl w.heap.size 3 i0 z 1 8 ht hi hz hsize hby hzs (by decide) v pre.length (cellsI pre) rfl (hown.alloc _) ⟨W.heap.size, 0, none⟩ 1 1 [.int .i64 y] rfl rfl (cell_one_new _ _ _) (by simp [Value.oneCell']) (by unfold maxLen; omega) (by omega) (by simp; omega) ?_; intro v3 w3 hown3 hg3 hnil3; obtain ⟨A3, c3, rfl⟩ := own_slice hown3; have hB3 := (hB1.alloc (.cells #[.int .i64 y] 3)).other (hown.alloc (.cells #[.int .i64 y] 3)) (by decide) hg3; have e3 := hB3.cellS (i := 0) (v := v) rfl; have f3 := hB3.frozen 0)
    have hgb : ∀ (j : Nat) (o : Obj), v.ownBlock = some j → (W.alloc (.cells #[.int .i64 y] 3)).heap[j]? = some o → o.isCells = true := fun j o hj ho => by
      rcases (hown.alloc (.cells #[.int .i64 y] 3)).2 with ⟨rfl, _⟩ | ⟨g, cap', cur, rfl, _, hh, _⟩
      · simp [Value.ownBlock] at hj
      · simp [Value.ownBlock] at hj
        subst hj
        rw [hh] at ho
        cases ho
        rfl
    have hblk : ∀ k, v.ownBlock = some k → w.heap.size ≤ k := fun k hk => (hown.lt k hk).1
    have hbw3 : Below w.heap.size W w3 := (((Below.refl w.heap.size W).alloc hWz (.cells #[.int .i64 y] 3)).grown hg3 (by simp; omega) hblk)
    have hco : cellsI pre ++ [Value.int .i64 y] = cellsI (pre ++ [y]) := by simp [cellsI]
    rw [hco] at hown3
    have hB4 := hB3.put 0 (.slice A3 (pre.length + 1) c3)
    have hown4 := own_setb hown3 hB3 (by decide) 0 (.slice A3 (pre.length + 1) c3)
    refine ⟨(((KeepsOthers.alloc _ _).trans (KeepsOthers.of_grownBy hg3 hgb)).trans (KeepsOthers.setCell _ _ _)).from _, hbw3.setCell (Nat.le_refl _) _, ⟨_, hB4, by rw [List.length_append]; exact hown4⟩, (hB.trans hbw3).setCell (Nat.le_refl _) _⟩
  case done =>
    rintro D ys W hD rfl ⟨⟨v, hB1, hown⟩, hB⟩ hK
    have e0 := hB1.cellS (i := 0) (v := v) rfl
    have f0 := hB1.frozen 0
    gi_wp2
    refine ⟨by simp, .inl ⟨_, _, rfl, run_takeDeferred hK, ?_⟩⟩
    have hDz : w.heap.size ≤ D := Nat.le_trans hb0.size hD
    refine ⟨v, by simp [results, Tryz.f99, go_sem], v, rfl, ?_, hB.trans (belowK_b (w := w) (Nat.le_refl _) W D _ _ hDz hK rfl rfl)⟩
    refine hown.kept (grownBy_putObj' W D (.deferred none)) ?_
    rcases hown.2 with ⟨rfl, _⟩ | ⟨g, cap', cur, rfl, _, hh, _⟩
    · exact .inl rfl
    · right
      intro e
      simp [Value.ownBlock] at e
      subst e
      rw [hh] at hK
      cases hK
  case stop =>
    rintro D c pre W hD hpre hF hK
    exact hF.elim

/-! ### Collect, Sorted. -/
set_option maxHeartbeats 1000000 in
theorem collect_vals (Bs len cap : Nat) (A : Option Addr) (xs : List Int) (w : World) (hBl : Bs < w.heap.size) (hBs : w.cell? ⟨Bs, 0, none⟩ = some (.slice A len cap)) (hr : Rd w w.heap.size 1 A len (cellsI xs)) (hm : len ≤ 17592186043904) :
    Calls Tryz.prog 62 #[.func (.func 64) #[] #[.pointer (some ⟨Bs, 0, none⟩)]] w fun e w' => ∃ v, e = .returned v ∧ w'.ownsRow w.heap.size 3 1 v xs.length (cellsI xs) ∧ Below w.heap.size w w' := by
  have C := hide (appendSeq_vals Bs len cap A xs w hBl hBs hr hm)
  clear hr hBs
  go_enter Tryz.func62, Tryz.ntmps62
  go_wp2_with fail
  refine (unhide C).mono ?_
  rintro e w1 ⟨v1, rfl, ho1, hb1⟩
  obtain ⟨A1, c1, rfl⟩ := own_slice ho1
  go_wp2
  go_ret
  exact ⟨_, rfl, ho1, hb1⟩
set_option maxRecDepth 100000 in
set_option maxHeartbeats 1000000 in
theorem sortedV_any (Bs len cap : Nat) (A : Option Addr) (xs : List Int) (w : World) (hBl : Bs < w.heap.size) (hBs : w.cell? ⟨Bs, 0, none⟩ = some (.slice A len cap)) (hr : Rd w w.heap.size 1 A len (cellsI xs)) (hm : len ≤ 17592186043904) :
    Calls Tryz.prog 31 #[.func (.func 64) #[] #[.pointer (some ⟨Bs, 0, none⟩)]] w fun e w' => ∃ v, e = .returned v ∧ w'.ownsRow w.heap.size 3 1 v xs.length (cellsI (sortI xs)) ∧ Below w.heap.size w w' := by
  have hl := hr.ilen
  have C := hide (collect_vals Bs len cap A xs w hBl hBs hr hm)
  clear hr hBs
  go_enter Tryz.func31, Tryz.ntmps31
  go_wp2_with fail
  refine (unhide C).mono ?_
  rintro e w1 ⟨v1, rfl, ho1, hb1⟩
  obtain ⟨A1, c1, rfl⟩ := own_slice ho1
  have hlt : xs.length < 4611686018427387904 := by rw [hl]; omega
  have CS := hide (isort_own ho1 hb1.size hlt)
  clear C ho1 hlt hl
  go_wp2_with fail
  refine (unhide CS).mono ?_
  rintro e w2 ⟨rfl, ho2, _, hb2⟩
  go_wp2
  go_ret
  exact ⟨_, rfl, ho2, hb1.trans hb2⟩
end Go.Proofs.YtmehghkpghbpjaaGreat
