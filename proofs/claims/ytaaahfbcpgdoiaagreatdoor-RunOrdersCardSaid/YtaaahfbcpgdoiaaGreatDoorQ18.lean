
/-
  A LAW: a region that draws its order and only reads, within a round of a range over a function.
  CONTRACTS of slices.Backward over ops (a range over a function) and faces.from.
-/
import Derived.Test.YtaaahfbcpgdoiaaGreatDoorQ0
import Derived.Sort.QuietIn
import Derived.RangeFuncNested
import Derived.Test.YtaaahfbcpgdoiaaGreatDoorQ11
import Derived.RangeFuncBound
import Derived.RangeFuncCalls
import Derived.RangeFuncLeaves
import Derived.RangeFuncBox
import Derived.Shelf.Abstract
import Derived.Shelf.RegionOpen
import Derived.OwnWalkIn
import Derived.TacticsInMore
import Derived.LoopNIn
import Derived.LoopIn
import Derived.Outline

namespace Go.Proofs.YtaaahfbcpgdoiaaGreatDoor
open Go.RowKit

section
variable {F : Fence} {n : Nat} {P : Program} {ops : Array Oper} {md : Region.Mode} {C : World → Prop}
theorem oper_of_quiet_r {o : Oper} {a : Act} {K : Act → Prop} {K' : Act → World → Prop} {Q' : Exit → Act → World → Prop} {w : World} {l : Nat} (hro : F.round = some l) (hnd : ∀ c, o.op ≠ .defer c) (hw : C w) (h : ∀ a w', C w' → K a → K' a w')
    (ha : o.askedIn F P a C) (hh : o.quietIn F n P a C K) : o.wpIn F n P a w K' Q' := by
  obtain ⟨v, h1, h2⟩ := hh
  have h3 := h1 w hw
  unfold Oper.quietAtIn at h3
  unfold Oper.wpIn
  refine ⟨ha w hw, ?_⟩
  rw [hro, Oper.semAt_some _ _ _ hnd]
  generalize (execOp a.eval o).run P w = r at *
  cases r with
  | ok x w' =>
    cases x <;> simp only [Oper.quietUponIn] at h3 <;> simp only [Oper.uponIn]
    case value u =>
      obtain ⟨e1, e2⟩ := h3
      rw [e1, e2]
      exact h _ _ hw h2
    case skip =>
      obtain ⟨e1, e2⟩ := h3
      rw [e1, ← e2]
      exact h _ _ hw h2
    case enter f args =>
      obtain ⟨e1, hd, hc⟩ := h3
      rw [e1]
      exact ⟨hd, hc.mono fun e w'' ⟨he, hw''⟩ => by subst he; exact h _ _ hw'' h2⟩
  | halt x w' => simp only [Oper.quietUponIn] at h3
theorem op_of_quiet_r {i : Nat} {a : Act} {K : Act → Prop} {K' : Act → World → Prop} {Q' : Exit → Act → World → Prop} {w : World} {l : Nat} (hro : F.round = some l) (hnd : ∀ (i : Nat) o, ops[i]? = some o → ∀ c, o.op ≠ .defer c) (hC : C w) (h : ∀ a w', C w' → K a → K' a w')
    (hh : qOpIn F n P ops C i K a) : wpOpIn F n P ops Q' i K' a w := by
  unfold qOpIn at hh
  unfold wpOpIn
  split
  · rename_i ho; simp only [ho] at hh; exact h _ _ hC hh
  · rename_i o ho
    simp only [ho] at hh
    obtain ⟨ha, hh⟩ := hh
    split
    · rename_i hw; simp only [hw, if_true] at hh; exact oper_of_quiet_r hro (hnd i o ho) hC h ha hh
    · rename_i hw; simp only [hw] at hh; exact ⟨ha w hC, h _ _ hC hh⟩
theorem any_of_quiet_r {Q : Act → Prop} {Q' : Exit → Act → World → Prop} {l : Nat} (hro : F.round = some l) (hnd : ∀ (i : Nat) o, ops[i]? = some o → ∀ c, o.op ≠ .defer c) (hQ : ∀ a w, C w → Q a → Q' .normal a w) : ∀ (fuel : Nat) (listed : Array Bool) (a : Act) (w : World), C w →
    wpAnyQIn F n P md ops C Q fuel listed a → wpAnyIn F n P md ops Q' fuel listed a w
  | 0, _, _, _, hw, h => ⟨h.1, hQ _ _ hw h.2⟩
  | fuel + 1, _, _, _, hw, h => ⟨fun h0 => hQ _ _ hw (h.1 h0), fun i hi => op_of_quiet_r hro hnd hw (fun a' w' hw' => any_of_quiet_r hro hnd hQ fuel _ a' w' hw') (h.2 i hi)⟩
theorem region_quiet_r {id : Nat} {Q : Exit → Act → World → Prop} {a : Act} {w : World} {l : List Oper} {lp : Nat} (hro : F.round = some lp) (hm : P.follows .mixedOrders = true) (hB : Region.lexB .any l.toArray = true)
    (hnd : (l.all fun o => match o.op with | .defer _ => false | _ => true) = true)
    (h : wpQuietIn F n P l.toArray (fun w' => ∃ n, w' = w.drewN n) (fun a' => ∀ w', (∃ n, w' = w.drewN n) → Q .normal a' w') l a) : (Code.region id l.toArray true).wpIn F n P Q a w := by
  have hnd' : ∀ (i : Nat) o, l.toArray[i]? = some o → ∀ c, o.op ≠ .defer c := by
    intro i o ho c hc
    have hm := List.all_eq_true.1 hnd o (by simpa using Array.mem_of_getElem? ho)
    rw [hc] at hm
    cases hm
  simp only [Region.lexB, Bool.and_eq_true] at hB
  refine wpIn_region_any hm (any_of_quiet_r (Q := fun a' => ∀ w', (∃ n, w' = w.drewN n) → Q .normal a' w') hro hnd' (fun _ w' hw' h => h w' hw') _ _ _ _ (C := fun w' => ∃ n, w' = w.drewN n) ⟨1, rfl⟩ ?_)
  have := wpAnyQIn_lex (F := F) (n := n) (C := fun w' => ∃ n, w' = w.drewN n) (md := .any) hB.1 l.toArray.toList 0 (Array.replicate l.toArray.size false) a (by simp) (by simpa using hB.2) (by simpa using h)
  simpa using this
end
end Go.Proofs.YtaaahfbcpgdoiaaGreatDoor


namespace Go.Proofs.YtaaahfbcpgdoiaaGreatDoor
open Go.RowKit Go.Shelf

attribute [local go_sem] Oper.semAt_some

/-- What comes in a round: the place and the op there, whose deal is one. -/
abbrev Al := { x : Nat × HOp // 1 ≤ x.2.tx ∧ x.2.tx ≤ 6 }
def Al.vals (x : Al) : Array Value := #[.int .i64 x.1.1, .agg #[.int .i64 x.1.2.tx, .int .i64 x.1.2.what, .int .i64 x.1.2.item]]
/-- What comes backward. -/
def BackOf (h : List HOp) (zs : List Al) : Prop := zs.length = h.length ∧ ∀ j x, zs[j]? = some x → x.1.1 + 1 + j = h.length ∧ h[x.1.1]? = some x.1.2

theorem backOf_rev (t : List HOp) (ht : ∀ o ∈ t, 1 ≤ o.tx ∧ o.tx ≤ 6) : ∃ zs, BackOf t.reverse zs ∧ zs.map (fun x => x.1.2) = t := by
  induction t with
  | nil => exact ⟨[], ⟨rfl, by simp⟩, rfl⟩
  | cons o t ih =>
    obtain ⟨zs, ⟨hl, hz⟩, hm⟩ := ih fun x hx => ht x (by simp [hx])
    refine ⟨⟨(t.length, o), ht o (by simp)⟩ :: zs, ⟨by simpa using hl, fun j x hx => ?_⟩, by simp [hm]⟩
    cases j with
    | zero =>
      simp at hx; subst hx
      simp
    | succ j =>
      obtain ⟨h1, h2⟩ := hz j x (by simpa using hx)
      refine ⟨by simp at h1 ⊢; omega, ?_⟩
      rw [List.reverse_cons, List.getElem?_append_left (by omega)]; exact h2
theorem backOf_ex (h : List HOp) (ht : ∀ o ∈ h, 1 ≤ o.tx ∧ o.tx ≤ 6) : ∃ zs, BackOf h zs ∧ zs.map (fun x => x.1.2) = h.reverse := by
  have := backOf_rev h.reverse (fun o ho => ht o (by simpa using ho))
  rwa [List.reverse_reverse] at this

set_option maxRecDepth 100000 in
set_option maxHeartbeats 2000000 in
theorem backward1_in (F : Fence) (n : Nat) (hF : F.fn 201) (hro : F.round = none) (hn : 1 ≤ n) (l Bs n₀ len cap : Nat) (A : Option Addr) (h : List HOp) (zs : List Al) (hz : BackOf h zs) (hm : len ≤ 1000000) (hBn : Bs < n₀) (J Jx : List Al → World → Prop)
    (hY : ∀ pre x W, J pre W → pre.length < len → YieldAt F (n - 1) Tryz.prog l x.vals W fun e W' =>
      (e = .returned (.bool true) ∧ J (pre ++ [x]) W' ∧ Below n₀ W W') ∨ (e = .returned (.bool false) ∧ Jx (pre ++ [x]) W'))
    (W : World) (hBs : W.cell? ⟨Bs, 0, none⟩ = some (.slice A len cap)) (hr : Rd W n₀ 3 A len (cellsH h)) (h0 : J [] W) :
    CallsIn F n Tryz.prog 201 #[.func (.yield l) #[] #[], .pointer (some ⟨Bs, 0, none⟩)] W fun e W' => (∃ v, e = .returned v) ∧
      ((∃ ys, ys = zs ∧ J ys W') ∨ (∃ pre, pre <+: zs ∧ Jx pre W')) := by
  have HL := Lib.hid hr.hlen
  refine callsIn_of_wp Tryz.func201 rfl hF ?_ hro
  simp only [Tryz.ntmps201, List.size_toArray, List.length_cons, List.length_nil, Nat.reduceAdd, Nat.reduceSub, Array.replicate_succ, Array.replicate_zero, List.push_toArray, List.append_toArray, List.nil_append, List.cons_append]
  gi_wp2
  gi_loopw [3] (fun i wr => ∃ k : Nat, k ≤ len ∧ i = .int .i64 ((len : Int) - 1 - k) ∧ J (zs.take k) wr ∧ Below n₀ W wr)
    (fun i _ => (intOf i + 1).toNat)
  case atStart => exact ⟨0, Nat.zero_le _, by simp, by simpa using h0, Below.refl _ _⟩
  case round =>
    obtain ⟨k, hk, rfl, hJs, hnx⟩ := hrel
    have hcs := (hnx.cell (p := ⟨Bs, 0, none⟩) hBn).trans hBs
    by_cases hlt : k < len
    · obtain ⟨x, hx⟩ : ∃ x, zs[k]? = some x := ⟨_, List.getElem?_eq_getElem (by rw [hz.1, HL.out]; exact hlt)⟩
      obtain ⟨hx1, hx2⟩ := hz.2 k x hx
      rw [HL.out] at hx1
      obtain ⟨b, off, o, rfl, hb, ho, c0, c1, c2⟩ := (hr.below hnx).op (k := x.1.1) (by omega)
      rw [hx2] at ho
      injection ho with ho
      subst ho
      have HT := Lib.hid (show zs.take (k + 1) = zs.take k ++ [x] by rw [List.take_add_one, hx]; rfl)
      obtain ⟨fn, tmps, assign, body, hy, hR⟩ := hY _ x wr hJs (by rw [List.length_take]; omega)
      have HR := hide hR
      obtain ⟨⟨i1, o1⟩, hx6⟩ := x
      have hi1 : (len : Int) - 1 - k = i1 := by simp at hx1; omega
      have hi0 : i1 < len := by simp at hx1; omega
      dsimp only [Al.vals] at hy
      simp only at c0 c1 c2
      rw [hi1]
      clear hx hx2 hx1 hR
      gi_wp2
      refine (unhide HR).mono ?_
      rintro e W3 (⟨rfl, hJ3, hk3⟩ | ⟨rfl, hJx3⟩)
      · have hcs3 := ((hnx.trans hk3).cell (p := ⟨Bs, 0, none⟩) hBn).trans hBs
        gi_wp2
        go_roundw
        case rel => exact ⟨k + 1, by omega, by go_num, by rw [HT.out]; exact hJ3, hnx.trans hk3⟩
        case measure => simp [intOf]
      · gi_wp2
        refine bodyPost_ret (results_none rfl _ _ _) rfl ?_
        exact ⟨⟨_, rfl⟩, .inr ⟨_, HT.out ▸ List.take_prefix _ _, hJx3⟩⟩
    · have hk2 : k = len := by omega
      have HZ : Hid (zs.take k = zs) := Lib.hid (List.take_of_length_le (by rw [hz.1, HL.out]; omega))
      gi_wp2
      go_end0
      exact ⟨⟨_, rfl⟩, .inl ⟨_, rfl, HZ.out ▸ hJs⟩⟩

set_option maxHeartbeats 400000 in
theorem backward_any (A : Option Addr) (len cap : Nat) (w : World) :
    Calls Tryz.prog 149 #[.slice A len cap] w fun e w' => e = .returned (.func (.func 201) #[] #[.pointer (some ⟨w.heap.size, 0, none⟩)]) ∧ w' = w.alloc (.cells #[.slice A len cap] 29) := by
  go_enter Tryz.func149, Tryz.ntmps149
  go_wp2
  go_ret
  exact ⟨rfl, rfl⟩

theorem backward_stops (F : Fence) (n : Nat) (hF : F.fn 201) (hro : F.round = none) (hn : 1 ≤ n) (Bs n₀ len cap : Nat) (A : Option Addr) (h : List HOp) (zs : List Al) (hz : BackOf h zs) (hm : len ≤ 1000000) (hBn : Bs < n₀) (w : World)
    (hn₀ : n₀ ≤ w.heap.size) (hBs : w.cell? ⟨Bs, 0, none⟩ = some (.slice A len cap)) (hr : Rd w n₀ 3 A len (cellsH h)) :
    SeqStopsK F n Tryz.prog 201 #[.pointer (some ⟨Bs, 0, none⟩)] Al.vals (Below n₀) (fun ys => ys = zs) (fun pre => pre <+: zs) len w := fun l J Jx W hW _ _ hY h0 =>
  backward1_in F n hF hro hn l Bs n₀ len cap A h zs hz hm hBn J Jx hY W ((hW.cell (p := ⟨Bs, 0, none⟩) (Nat.lt_of_lt_of_le hBn hn₀)).trans hBs) (hr.below (hW.mono hn₀)) h0

theorem keepsOthers_drewN (W : World) (n : Nat) : KeepsOthers W (W.drewN n) := ⟨Nat.le_refl _, fun _ _ h _ => h⟩
/-! ### faces.from -/
def fromT (es : List Int) (x o : HOp) : Bool := decide (o.what = 2 ∧ o.item = x.item ∧ es.getD o.tx.toNat 0 ≠ 4)
def fromB (pre : List HOp) (x : HOp) : Int := match pre.reverse.find? (fromT (endedF pre) x) with
  | some o => o.tx
  | none => 0

theorem fromB_none {pre : List HOp} {x : HOp} {zs : List Al} (hz : zs.map (fun x => x.1.2) = pre.reverse) (h : ∀ y ∈ zs, fromT (endedF pre) x y.1.2 = false) : fromB pre x = 0 := by
  have : pre.reverse.find? (fromT (endedF pre) x) = none := by
    rw [← hz, List.find?_eq_none]
    intro o ho
    obtain ⟨y, hy, rfl⟩ := List.mem_map.1 ho
    simp [h y hy]
  rw [fromB, this]
theorem fromB_some {pre : List HOp} {x : HOp} {zs ini q : List Al} {last : Al} (hz : zs.map (fun x => x.1.2) = pre.reverse) (hp : q <+: zs) (hq : q = ini ++ [last]) (h : ∀ y ∈ ini, fromT (endedF pre) x y.1.2 = false) (h2 : fromT (endedF pre) x last.1.2 = true) : fromB pre x = last.1.2.tx := by
  obtain ⟨r, rfl⟩ := hp
  subst hq
  have h3 : (ini.map (fun x => x.1.2)).find? (fromT (endedF pre) x) = none := by
    rw [List.find?_eq_none]
    intro o ho
    obtain ⟨y, hy, rfl⟩ := List.mem_map.1 ho
    simp [h y hy]
  have : pre.reverse.find? (fromT (endedF pre) x) = some last.1.2 := by
    rw [← hz]
    simp only [List.map_append, List.map_cons, List.map_nil, List.append_assoc]
    rw [List.find?_append, h3]
    simp [h2]
  rw [fromB, this]

set_option maxRecDepth 100000 in
set_option maxHeartbeats 2000000 in
theorem from_any (A : Option Addr) (n cap : Nat) (h : List HOp) (i : Nat) (x : HOp) (w : World) (hr : Rd w w.heap.size 3 A n (cellsH h)) (hm : n ≤ 1000000) (hcap : n ≤ cap) (hx : h[i]? = some x) (ht : ∀ o ∈ h, 1 ≤ o.tx ∧ o.tx ≤ 6) :
    Calls Tryz.prog 105 #[.slice A n cap, .int .i64 i] w fun e w' => e = .returned (.int .i64 (fromB (h.take i) x)) ∧ Below w.heap.size w w' := by
  have hin : i < n := by rw [← hr.hlen]; exact (List.getElem?_eq_some_iff.1 hx).1
  have hi2 : i ≤ cap := by omega
  have C1 := hide (fun w1 (hb : Below w.heap.size w w1) => ended_any A n cap h i w1 ((hr.below hb).more hb.size) hm hcap (by omega) ht)
  have HT := Lib.hid ht
  have HX := Lib.hid hx
  clear ht hx
  have hll := endedF_length (h.take i)
  obtain ⟨x0, x1, x2, x3, x4, x5, x6, he⟩ := list7 hll
  have HE := Lib.hid he
  clear he hll
  refine (callsIn_wide (n := 5)).1 ?_
  refine callsIn_of_wp_marks Tryz.func105 rfl trivial ?_ rfl
  simp only [Tryz.ntmps105, List.size_toArray, List.length_cons, List.length_nil, Nat.reduceAdd, Nat.reduceSub, Array.replicate_succ, Array.replicate_zero, List.push_toArray, List.append_toArray, List.nil_append, List.cons_append]
  have hb0 : Below w.heap.size w (((w.alloc (.cells #[.slice A n cap] 29)).alloc (.cells #[.int .i64 i] 3)).alloc (.cells #[.int .i64 0] 3)) := (((Below.refl _ _).alloc (Nat.le_refl _) _).alloc (by simp) _).alloc (by simp; omega) _
  have HB0 := hide hb0
  clear hb0
  gi_wp2_with (refine ⟨trivial, ?_⟩; gi_at_call 106; refine (callsIn_wide.2 (unhide C1 _ (unhide HB0))).mono ?_)
  rintro e w1 ⟨rfl, hb1⟩
  rw [HE.out]
  simp only [arr7, List.getD_cons_zero, List.getD_cons_succ]
  have hz1 := hb1.size
  simp at hz1
  have k0 : w1.cell? ⟨w.heap.size, 0, none⟩ = some (.slice A n cap) := (hb1.cell (p := ⟨w.heap.size, 0, none⟩) (by simp; omega)).trans (by rw [World.cell?_alloc_lt _ _ _ (by simp; omega), World.cell?_alloc_lt _ _ _ (by simp)]; exact World.cell?_alloc_at _ _ _ _ rfl)
  have k1 : w1.cell? ⟨w.heap.size + 1, 0, none⟩ = some (.int .i64 i) := (hb1.cell (p := ⟨w.heap.size + 1, 0, none⟩) (by simp)).trans (by rw [World.cell?_alloc_lt _ _ _ (by simp)]; exact World.cell?_alloc_at _ _ _ _ (by simp))
  have kb : Blk w1 (w.heap.size + 1 + 1) 3 [.int .i64 0] := by
    have := (Blk.new ((w.alloc (.cells #[.slice A n cap] 29)).alloc (.cells #[.int .i64 i] 3)) 3 [.int .i64 0]).below hb1 (by simp)
    simpa using this
  have k2 := kb.cellS (i := 0) (v := .int .i64 0) rfl
  have k3 := kb.frozen 0
  have hz2 : w.heap.size < w1.heap.size := by omega
  have hz3 : w.heap.size + 1 < w1.heap.size := by omega
  have hz4 : w.heap.size + 1 + 1 < w1.heap.size := by omega
  have hbw : Below w.heap.size w w1 := (unhide HB0).trans (hb1.mono (by simp; omega))
  clear hb1 HB0
  gi_wp2_with (refine ⟨trivial, ?_⟩; gi_at_call 149; refine (callsIn_wide.2 (backward_any _ _ _ _)).mono ?_; rintro e w' ⟨rfl, rfl⟩)
  have hsz0 : ((w1.alloc (.cells #[.int .i64 x0, .int .i64 x1, .int .i64 x2, .int .i64 x3, .int .i64 x4, .int .i64 x5, .int .i64 x6] 197)).alloc (.cells #[.slice A i cap] 29)).heap.size = w1.heap.size + 2 := by simp
  have hB0 : Below w1.heap.size w1 ((w1.alloc (.cells #[.int .i64 x0, .int .i64 x1, .int .i64 x2, .int .i64 x3, .int .i64 x4, .int .i64 x5, .int .i64 x6] 197)).alloc (.cells #[.slice A i cap] 29)) := ((Below.refl _ _).alloc (Nat.le_refl _) _).alloc (by simp) _
  have kA : Blk ((w1.alloc (.cells #[.int .i64 x0, .int .i64 x1, .int .i64 x2, .int .i64 x3, .int .i64 x4, .int .i64 x5, .int .i64 x6] 197)).alloc (.cells #[.slice A i cap] 29)) w1.heap.size 197 [.int .i64 x0, .int .i64 x1, .int .i64 x2, .int .i64 x3, .int .i64 x4, .int .i64 x5, .int .i64 x6] := (Blk.new w1 197 [.int .i64 x0, .int .i64 x1, .int .i64 x2, .int .i64 x3, .int .i64 x4, .int .i64 x5, .int .i64 x6]).alloc _
  have kS : ((w1.alloc (.cells #[.int .i64 x0, .int .i64 x1, .int .i64 x2, .int .i64 x3, .int .i64 x4, .int .i64 x5, .int .i64 x6] 197)).alloc (.cells #[.slice A i cap] 29)).cell? ⟨w1.heap.size + 1, 0, none⟩ = some (.slice A i cap) := World.cell?_alloc_at _ _ _ _ (by simp)
  generalize (w1.alloc (.cells #[.int .i64 x0, .int .i64 x1, .int .i64 x2, .int .i64 x3, .int .i64 x4, .int .i64 x5, .int .i64 x6] 197)).alloc (.cells #[.slice A i cap] 29) = W0 at *
  replace k0 := (hB0.cell (p := ⟨w.heap.size, 0, none⟩) hz2).trans k0
  replace k1 := (hB0.cell (p := ⟨w.heap.size + 1, 0, none⟩) hz3).trans k1
  replace kb := kb.below hB0 hz4
  have hbw0 : Below w.heap.size w W0 := hbw.trans (hB0.mono hbw.size)
  have hr0 : Rd W0 w.heap.size 3 A n (cellsH h) := hr.below hbw0
  have hll : (h.take i).length = i := by rw [List.length_take]; have := hr.hlen; omega
  have hT2 : ∀ o ∈ h.take i, 1 ≤ o.tx ∧ o.tx ≤ 6 := fun o ho => HT.out o (List.mem_of_mem_take ho)
  obtain ⟨zs, hz, hzm⟩ := backOf_ex (h.take i) hT2
  have hk4 : ∀ k, k < 7 → W0.cell? ⟨w1.heap.size, k, none⟩ = some (.int .i64 ((endedF (h.take i)).getD k 0)) := fun k hk => by
    rw [kA.cell, HE.out]
    have : k = 0 ∨ k = 1 ∨ k = 2 ∨ k = 3 ∨ k = 4 ∨ k = 5 ∨ k = 6 := by omega
    rcases this with rfl | rfl | rfl | rfl | rfl | rfl | rfl <;> rfl
  have HK4 := hide hk4
  clear hk4 hll hT2 k2 k3
  obtain ⟨b, off, x', rfl, hb, hx', d0, d1, d2⟩ := hr0.op hin
  have hx3 := HX.out
  rw [hx3] at hx'
  injection hx' with hx'
  subst hx'
  clear hx3
  obtain ⟨xt, xw, xi⟩ := x
  simp only at d0 d1 d2
  refine wpIn_rangeFunc_ownH rfl (by omega) (gf := 201) (lb := #[.pointer (some ⟨w1.heap.size + 1, 0, none⟩)]) rfl trivial (enters_of Tryz.func201 (by kernel_rfl) rfl)
    (backward_stops Fence.wide (5 - 1) trivial rfl (by omega) (w1.heap.size + 1) W0.heap.size i cap (some ⟨b, off, none⟩) (h.take i) zs hz (by omega) (by omega) W0 (Nat.le_refl _) kS ((hr0.take (by omega)).more hbw0.size)) belowK_t (belowK_b (Nat.le_refl _)) (Below.refl _ _) (fun _ => rfl)
    (fun pre W => (∀ y ∈ pre, fromT (endedF (h.take i)) ⟨xt, xw, xi⟩ y.1.2 = false) ∧ Below W0.heap.size W0 W)
    (fun c pre W => (c = .ret ∧ ∃ ini last, pre = ini ++ [last] ∧ (∀ y ∈ ini, fromT (endedF (h.take i)) ⟨xt, xw, xi⟩ y.1.2 = false) ∧ fromT (endedF (h.take i)) ⟨xt, xw, xi⟩ last.1.2 = true ∧ W.cell? ⟨w.heap.size + 1 + 1, 0, none⟩ = some (.int .i64 last.1.2.tx)) ∧ Below w.heap.size w W)
    (OwnFrom.and (ownFrom_pure _ _) (ownFrom_below (Nat.le_refl _) (Nat.le_refl _)))
    (fun c => OwnFrom.and (Own.from (fun s X Y row hs hg hrow => by obtain ⟨hc, ini, last, e1, e2, e3, e4⟩ := hs; exact ⟨hc, ini, last, e1, e2, e3, cell_kept e4 hg hrow⟩) _) (ownFrom_below (Nat.le_refl _) hbw0.size))
    ⟨by simp, Below.refl _ _⟩
    (fun y a' W => ∃ Bx, W0.heap.size ≤ Bx ∧ Blk W Bx 91 [.int .i64 y.1.2.tx, .int .i64 y.1.2.what, .int .i64 y.1.2.item] ∧ a' = { tmps := #[.slice (some ⟨b, off, none⟩) n cap, .int .i64 i, .pointer (some ⟨w.heap.size, 0, none⟩), .pointer (some ⟨w.heap.size + 1, 0, none⟩), .pointer (some ⟨w.heap.size + 1 + 1, 0, none⟩), .pointer (some ⟨w1.heap.size, 0, none⟩), undef, .pointer (some ⟨Bx, 0, none⟩), .slice (some ⟨b, off, none⟩) n cap, .int .i64 i, .agg #[.int .i64 x0, .int .i64 x1, .int .i64 x2, .int .i64 x3, .int .i64 x4, .int .i64 x5, .int .i64 x6], .slice (some ⟨b, off, none⟩) n cap, .int .i64 i, .slice (some ⟨b, off, none⟩) i cap, .func (.func 201) #[] #[.pointer (some ⟨w1.heap.size + 1, 0, none⟩)], .int .i64 y.1.1, .agg #[.int .i64 y.1.2.tx, .int .i64 y.1.2.what, .int .i64 y.1.2.item], undef, undef, undef, undef, undef, undef, undef, undef, undef, undef, undef, undef, undef, undef, undef, undef, undef, undef, undef, undef, undef, undef], defers := [] })
    (fun y a' _ X Y row hs hg hrow => by
      obtain ⟨Bx, h1, h2, h3⟩ := hs
      refine ⟨Bx, h1, (hg.block Bx h2.lt (fun e => ?_)).trans h2, h3⟩
      obtain ⟨_, o, ho, hc⟩ := hrow Bx e.symm
      rw [show X.heap[Bx]? = _ from h2] at ho; cases ho; cases hc)
    ?assign ?body ?done ?stop
  case assign =>
    rintro l pre ⟨⟨j, o⟩, ho⟩ W K ⟨hp, hB⟩ hK
    dsimp only [Al.vals]
    gi_wp2
    exact hK _ _ ((KeepsOthers.alloc _ _).from _) ((Below.refl _ W).alloc hB.size _) ⟨hp, hB.alloc hB.size _⟩ ⟨W.heap.size, hB.size, Blk.new W _ _, rfl⟩
  case body =>
    rintro l pre ⟨⟨j, o⟩, ho⟩ a' W hl ⟨r, hr1⟩ ⟨hp, hB⟩ ⟨Bx, hBx, bX, rfl⟩ hlt
    obtain ⟨tx, wh, item⟩ := o
    simp only at ho bX ⊢
    obtain ⟨ho1, ho2⟩ := ho
    have hz : tx.toNat < 7 := by omega
    have q0 : w.heap.size < W0.heap.size := by omega
    have q1 : w.heap.size + 1 < W0.heap.size := by omega
    have q2 : w1.heap.size < W0.heap.size := by omega
    have q3 : b < W0.heap.size := by omega
    have e1 := bX.cellS (i := 0) (v := .int .i64 tx) rfl
    have e2 := bX.cellS (i := 1) (v := .int .i64 wh) rfl
    have e3 := bX.cellS (i := 2) (v := .int .i64 item) rfl
    have f0 := (hB.cell (p := ⟨w.heap.size, 0, none⟩) q0).trans k0
    have f1 := (hB.cell (p := ⟨w.heap.size + 1, 0, none⟩) q1).trans k1
    have f4 := (hB.cell (p := ⟨w1.heap.size, tx.toNat, none⟩) q2).trans (unhide HK4 _ hz)
    have g0 := (hB.cell (p := ⟨b, off + i * 3, none⟩) q3).trans d0
    have g1 := (hB.cell (p := ⟨b, off + i * 3 + 1, none⟩) q3).trans d1
    have g2 := (hB.cell (p := ⟨b, off + i * 3 + 2, none⟩) q3).trans d2
    have hbR := kb.below hB (by omega)
    have r0 := hbR.cellS (i := 0) (v := .int .i64 0) rfl
    have r1 := hbR.frozen 0
    have hbW : Below w.heap.size w W := hbw0.trans (hB.mono hbw0.size)
    clear k0 k1 kS d0 d1 d2 hl hr1
    generalize hv : (endedF (h.take i)).getD tx.toNat 0 = v at *
    have HV := Lib.hid hv
    clear hv
    by_cases c1 : wh = 2
    · by_cases c2 : item = xi
      · by_cases c3 : v = 4
        · have HR : Hid (fromT (endedF (h.take i)) ⟨xt, xw, xi⟩ ⟨tx, wh, item⟩ = false) := Lib.hid (by rw [fromT, HV.out]; simp [c3])
          subst c1 c2 c3
          gi_wp2
          refine region_quiet_r (lp := l) rfl (by kernel_rfl) (by kernel_rfl) (by kernel_rfl) ?_
          repeat (gi_big_quiet_step (fail))
          refine wpQuietIn_nil ?_
          intro _ hw'
          obtain ⟨nq, hw''⟩ := hw'
          subst hw''
          gi_wp2
          exact ⟨(keepsOthers_drewN _ _).from _, below_drewN (Below.refl _ _) _, ⟨fun y hy => (List.mem_append.1 hy).elim (hp y) (fun e => by rw [List.mem_singleton.1 e]; exact HR.out), below_drewN hB _⟩⟩
        · have HR : Hid (fromT (endedF (h.take i)) ⟨xt, xw, xi⟩ ⟨tx, wh, item⟩ = true) := Lib.hid (by rw [fromT, HV.out]; simp [c1, c2, c3])
          have c3' : (v != 4) = true := by simpa using c3
          subst c1 c2
          gi_wp2
          refine region_quiet_r (lp := l) rfl (by kernel_rfl) (by kernel_rfl) (by kernel_rfl) ?_
          repeat (gi_big_quiet_step (fail))
          refine wpQuietIn_nil ?_
          intro _ hw'
          obtain ⟨nq, hw''⟩ := hw'
          subst hw''
          gi_wp2
          exact ⟨((keepsOthers_drewN _ _).trans (KeepsOthers.setCell _ _ _)).from _, ⟨rfl, pre, _, rfl, hp, HR.out, World.cell?_setCell_same' _ _ _ (by rw [show (W.drewN _).cell? _ = W.cell? _ from rfl, r0]; rfl)⟩, (below_drewN hbW _).setCell (by show w.heap.size ≤ w.heap.size + 1 + 1; omega) _⟩
      · have HR : Hid (fromT (endedF (h.take i)) ⟨xt, xw, xi⟩ ⟨tx, wh, item⟩ = false) := Lib.hid (by simp [fromT, c2])
        have c2' : (item == xi) = false := by simpa using c2
        subst c1
        gi_wp2
        refine region_quiet_r (lp := l) rfl (by kernel_rfl) (by kernel_rfl) (by kernel_rfl) ?_
        repeat (gi_big_quiet_step (fail))
        refine wpQuietIn_nil ?_
        intro _ hw'
        obtain ⟨nq, hw''⟩ := hw'
        subst hw''
        gi_wp2
        exact ⟨(keepsOthers_drewN _ _).from _, below_drewN (Below.refl _ _) _, ⟨fun y hy => (List.mem_append.1 hy).elim (hp y) (fun e => by rw [List.mem_singleton.1 e]; exact HR.out), below_drewN hB _⟩⟩
    · have HR : Hid (fromT (endedF (h.take i)) ⟨xt, xw, xi⟩ ⟨tx, wh, item⟩ = false) := Lib.hid (by simp [fromT, c1])
      have c1' : (wh == 2) = false := by simpa using c1
      gi_wp2
      refine region_quiet_r (lp := l) rfl (by kernel_rfl) (by kernel_rfl) (by kernel_rfl) ?_
      repeat (gi_big_quiet_step (fail))
      refine wpQuietIn_nil ?_
      intro _ hw'
      obtain ⟨nq, hw''⟩ := hw'
      subst hw''
      gi_wp2
      exact ⟨(keepsOthers_drewN _ _).from _, below_drewN (Below.refl _ _) _, ⟨fun y hy => (List.mem_append.1 hy).elim (hp y) (fun e => by rw [List.mem_singleton.1 e]; exact HR.out), below_drewN hB _⟩⟩
  case done =>
    rintro D ys W hD rfl ⟨hp, hB⟩ hK
    have HR := Lib.hid (fromB_none hzm hp)
    have q0 : w.heap.size + 1 + 1 < W0.heap.size := by omega
    have hbR := kb.below hB q0
    have r0 := hbR.cellS (i := 0) (v := .int .i64 0) rfl
    have r1 := hbR.frozen 0
    have hbW : Below w.heap.size w W := hbw0.trans (hB.mono hbw0.size)
    clear hp hzm hz k0 k1 kS d0 d1 d2
    gi_wp2
    have hK' := (KeepsOthers.setCell W ⟨w.heap.size + 1 + 1, 0, none⟩ (.int .i64 0)).same D _ hK rfl
    refine ⟨by simp, .inl ⟨_, _, rfl, run_takeDeferred hK', ?_⟩⟩
    have hc5 := cell_kept (World.cell?_setCell_same' W ⟨w.heap.size + 1 + 1, 0, none⟩ (.int .i64 0) (by rw [r0]; rfl)) (grownBy_putObj' _ D (.deferred none)) (fun r e => by cases e; exact ⟨_, hK', rfl⟩)
    refine ⟨.int .i64 0, by simp [results, Tryz.f105, go_sem, hc5], ret_int HR.out.symm, (hbW.setCell (p := ⟨w.heap.size + 1 + 1, 0, none⟩) (by show w.heap.size ≤ w.heap.size + 1 + 1; omega) _).trans (belowK_b (w := w) (Nat.le_refl _) _ D _ _ (by omega) hK' rfl rfl)⟩
  case stop =>
    rintro D c pre W hD hpre ⟨⟨rfl, ini, last, e1, e2, e3, hcr⟩, hbW⟩ hK
    have HR := Lib.hid (fromB_some hzm hpre e1 e2 e3)
    clear hpre e1 e2 e3 hzm hz k0 k1 kS d0 d1 d2
    gi_wp2
    refine ⟨by simp, .inl ⟨_, _, rfl, run_takeDeferred hK, ?_⟩⟩
    have hc5 := cell_kept hcr (grownBy_putObj' _ D (.deferred none)) (fun r e => by cases e; exact ⟨_, hK, rfl⟩)
    refine ⟨.int .i64 last.1.2.tx, by simp [results, Tryz.f105, go_sem, hc5], ret_int HR.out.symm, hbW.trans (belowK_b (w := w) (Nat.le_refl _) W D _ _ (by omega) hK rfl rfl)⟩
end Go.Proofs.YtaaahfbcpgdoiaaGreatDoor
