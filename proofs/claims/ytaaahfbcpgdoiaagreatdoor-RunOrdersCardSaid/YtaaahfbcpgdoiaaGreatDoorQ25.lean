
/-
  CONTRACTS of cmp.Compare, cmp.Or at numbers, of the order of edges that odds.Sorted hands on, of slices.SortFunc at edges by the shelf's, of odds.Sorted.
  CONTRACTS of odds.EdgesOf, Edges: the edges between deals that are done.
  CONTRACTS of serial.OrderOf, Order, Is, history.Of.
-/
import Derived.Test.YtaaahfbcpgdoiaaGreatDoorLaysE
import Derived.Test.YtaaahfbcpgdoiaaGreatDoorQ6
import Derived.Test.YtaaahfbcpgdoiaaGreatDoorQ8
import Derived.Shelf.SlSortCmp.WholeK
import Derived.Shelf.SlSortCmp.NoneTotal
import Derived.StillTailTactics
import Derived.Test.YtaaahfbcpgdoiaaGreatDoorQ7
import Derived.Test.YtaaahfbcpgdoiaaGreatDoorQ10
import Derived.Deep.RegionHeld3
import Derived.Test.YtaaahfbcpgdoiaaGreatDoorQ24

namespace Go.Proofs.YtaaahfbcpgdoiaaGreatDoor
open Go.RowKit Go.Sort Go.Shelf

theorem isNaN_any (x : Int) (w : World) : Calls Tryz.prog 127 #[.int .i64 x] w fun e w' => e = .returned (.bool false) ∧ w' = w := by
  go_enter Tryz.func127, Tryz.ntmps127
  go_wp2
  go_ret
  exact ⟨by simp, rfl⟩
def cmpI (x y : Int) : Int := if x < y then -1 else if y < x then 1 else 0
theorem compare_any (x y : Int) (w : World) : Calls Tryz.prog 77 #[.int .i64 x, .int .i64 y] w fun e w' => e = .returned (.int .i64 (cmpI x y)) ∧ w' = w := by
  have C := hide (fun x w => isNaN_any x w)
  by_cases h1 : x < y
  · have HF : Hid (cmpI x y = -1) := Lib.hid (by unfold cmpI; rw [if_pos h1])
    go_enter Tryz.func77, Tryz.ntmps77
    go_wp2_with fail
    refine (unhide C _ _).mono ?_
    rintro e w' ⟨rfl, rfl⟩
    go_wp2_with fail
    refine (unhide C _ _).mono ?_
    rintro e w' ⟨rfl, rfl⟩
    go_wp2
    go_ret
    exact ⟨by rw [HF.out]; rfl, rfl⟩
  · by_cases h2 : y < x
    · have HF : Hid (cmpI x y = 1) := Lib.hid (by unfold cmpI; rw [if_neg h1, if_pos h2])
      go_enter Tryz.func77, Tryz.ntmps77
      go_wp2_with fail
      refine (unhide C _ _).mono ?_
      rintro e w' ⟨rfl, rfl⟩
      go_wp2_with fail
      refine (unhide C _ _).mono ?_
      rintro e w' ⟨rfl, rfl⟩
      go_wp2
      go_ret
      exact ⟨by rw [HF.out]; rfl, rfl⟩
    · have HF : Hid (cmpI x y = 0) := Lib.hid (by unfold cmpI; rw [if_neg h1, if_neg h2])
      go_enter Tryz.func77, Tryz.ntmps77
      go_wp2_with fail
      refine (unhide C _ _).mono ?_
      rintro e w' ⟨rfl, rfl⟩
      go_wp2_with fail
      refine (unhide C _ _).mono ?_
      rintro e w' ⟨rfl, rfl⟩
      go_wp2
      go_ret
      exact ⟨by rw [HF.out]; rfl, rfl⟩

def orI (a b : Int) : Int := if a = 0 then b else a
theorem or_any (a b : Int) (g c : Nat) (w : World) (hB : Blk w g 3 (cellsI [a, b])) : Calls Tryz.prog 190 #[.slice (some ⟨g, 0, none⟩) 2 c] w fun e w' => e = .returned (.int .i64 (orI a b)) ∧ w' = w := by
  have c0 := hB.cellS (i := 0) (v := .int .i64 a) rfl
  have c1 := hB.cellS (i := 1) (v := .int .i64 b) rfl
  have HF : Hid (orI a b = if a = 0 then b else a) := Lib.hid rfl
  generalize orI a b = R at *
  clear hB
  go_enter Tryz.func190, Tryz.ntmps190
  go_wp2
  go_loop [8] (fun s8 => ∃ i : Nat, i ≤ 2 ∧ s8 = .int .i64 i ∧ Hid ((1 ≤ i → a = 0) ∧ (2 ≤ i → b = 0))) (fun s8 => 2 - (intOf s8).toNat)
  case atStart => exact ⟨0, by omega, rfl, Lib.hid ⟨by omega, by omega⟩⟩
  case round =>
    obtain ⟨i, hi, rfl, HI⟩ := hrel
    obtain hi0 | hi1 | hi2 : i = 0 ∨ i = 1 ∨ i = 2 := by omega
    · subst hi0
      by_cases ha : a = 0
      · have HI2 : Hid ((1 ≤ 1 → a = 0) ∧ (2 ≤ 1 → b = 0)) := Lib.hid ⟨fun _ => ha, by omega⟩
        have ha' : (a != 0) = false := by simpa using ha
        clear ha HI
        go_wp2
        go_round
        case rel => exact ⟨1, by omega, rfl, HI2⟩
        case measure => simp [intOf]
      · have HR : Hid (R = a) := Lib.hid (by rw [HF.out, if_neg ha])
        have ha' : (a != 0) = true := by simpa using ha
        clear ha HI
        go_wp2
        go_ret
        exact ⟨ret_int HR.out.symm, rfl⟩
    · subst hi1
      have ha := HI.out.1 (by omega)
      by_cases hb : b = 0
      · have HI2 : Hid ((1 ≤ 2 → a = 0) ∧ (2 ≤ 2 → b = 0)) := Lib.hid ⟨fun _ => ha, fun _ => hb⟩
        have hb' : (b != 0) = false := by simpa using hb
        clear ha hb HI
        go_wp2
        go_round
        case rel => exact ⟨2, by omega, rfl, HI2⟩
        case measure => simp [intOf]
      · have HR : Hid (R = b) := Lib.hid (by rw [HF.out, if_pos ha])
        have hb' : (b != 0) = true := by simpa using hb
        clear ha hb HI
        go_wp2
        go_ret
        exact ⟨ret_int HR.out.symm, rfl⟩
    · subst hi2
      have HR : Hid (R = 0) := Lib.hid (by rw [HF.out, if_pos (HI.out.1 (by omega)), HI.out.2 (by omega)])
      clear HI
      go_wp2
      go_ret
      exact ⟨ret_int HR.out.symm, rfl⟩

theorem grow3 (W : World) (a b c : Obj) : (((W.alloc a).alloc b).alloc c).drew = grow (W.drewN 1) #[a, b, c] := by
  rw [alloc_eq_grow, alloc_eq_grow, alloc_eq_grow, grow_grow, grow_grow]; rfl
def cmpE (x y : Int × Int) : Int := orI (cmpI x.1 y.1) (cmpI x.2 y.2)
set_option maxRecDepth 100000 in
set_option maxHeartbeats 2000000 in
theorem sorted1_any (x y : Int × Int) (W : World) : Calls Tryz.prog 189 #[.agg (encP x).toArray, .agg (encP y).toArray] W fun e w' => e = .returned (.int .i64 (cmpE x y)) ∧ ∃ q os, w' = grow (W.drewN q) os := by
  obtain ⟨x1, x2⟩ := x
  obtain ⟨y1, y2⟩ := y
  have C := hide (fun x y w => compare_any x y w)
  have HO := hide (fun a b g c w => or_any a b g c w)
  have HE : Hid (cmpE (x1, x2) (y1, y2) = orI (cmpI x1 y1) (cmpI x2 y2)) := Lib.hid rfl
  generalize cmpE (x1, x2) (y1, y2) = R at *
  unfold encP
  simp only
  go_enter Tryz.func189, Tryz.ntmps189
  go_wp2
  have B0 : Blk ((W.alloc (.cells #[.int .i64 x1, .int .i64 x2] 237)).alloc (.cells #[.int .i64 y1, .int .i64 y2] 237)) W.heap.size 237 [.int .i64 x1, .int .i64 x2] := (Blk.new W 237 [.int .i64 x1, .int .i64 x2]).alloc _
  have B1 : Blk ((W.alloc (.cells #[.int .i64 x1, .int .i64 x2] 237)).alloc (.cells #[.int .i64 y1, .int .i64 y2] 237)) (W.heap.size + 1) 237 [.int .i64 y1, .int .i64 y2] := by
    have := Blk.new (W.alloc (.cells #[.int .i64 x1, .int .i64 x2] 237)) 237 [.int .i64 y1, .int .i64 y2]
    simpa using this
  obtain ⟨W2, hW2⟩ : ∃ W2, (W.alloc (.cells #[.int .i64 x1, .int .i64 x2] 237)).alloc (.cells #[.int .i64 y1, .int .i64 y2] 237) = W2 := ⟨_, rfl⟩
  rw [hW2] at B0 B1 ⊢
  have HW2 := Lib.hid hW2
  have c0 := B0.cellS (i := 0) (v := .int .i64 x1) rfl
  have c1 := B0.cellS (i := 1) (v := .int .i64 x2) rfl
  have d0 := B1.cellS (i := 0) (v := .int .i64 y1) rfl
  have d1 := B1.cellS (i := 1) (v := .int .i64 y2) rfl
  clear hW2 B0 B1
  go_still_tail 10, (by kernel_rfl)
  still_call (unhide C _ _ _)
  repeat still_step
  still_call (unhide C _ _ _)
  refine wpStill_nil ?_
  change wpList _ _ _ _ _ W2.drew
  go_wp2_with fail
  refine (unhide HO (cmpI x1 y1) (cmpI x2 y2) W2.heap.size 2 ((W2.alloc (.cells #[.int .i64 (cmpI x1 y1), .int .i64 (cmpI x2 y2)] 3)).drew) (Blk.drew (Blk.new W2 3 (cellsI [cmpI x1 y1, cmpI x2 y2])))).mono ?_
  rintro e w' ⟨rfl, rfl⟩
  go_wp2
  go_ret
  exact ⟨ret_int HE.out.symm, 1, #[.cells #[.int .i64 x1, .int .i64 x2] 237, .cells #[.int .i64 y1, .int .i64 y2] 237, .cells #[.int .i64 (cmpI x1 y1), .int .i64 (cmpI x2 y2)] 3], by rw [← HW2.out]; exact grow3 _ _ _ _⟩
theorem cmpE_lt (x y : Int × Int) : ltOf cmpE x y = ltE x y := by
  obtain ⟨x1, x2⟩ := x
  obtain ⟨y1, y2⟩ := y
  unfold ltOf cmpE ltE orI cmpI
  simp only
  by_cases h1 : x1 < y1
  · simp [h1]
  · by_cases h2 : y1 < x1
    · simp [h1, h2]; omega
    · have : x1 = y1 := by omega
      subst this
      by_cases h3 : x2 < y2
      · simp [h3]
      · by_cases h4 : y2 < x2 <;> simp [h3, h4]
theorem swoE : SWO (ltOf cmpE) where
  irrefl x := by rw [cmpE_lt]; exact sloE.irr x
  trans x y z h1 h2 := by rw [cmpE_lt] at *; exact sloE.trans x y z h1 h2
  ntrans x y z h1 h2 := by rw [cmpE_lt] at *; simp [ltE] at *; omega
theorem isAggE : ∀ w, (isAgg 237).run Tryz.prog w = .ok true w := fun w => by kernel_rfl
theorem sizeOfE : ∀ w, (Go.sizeOf 237).run Tryz.prog w = .ok 2 w := fun w => by kernel_rfl
theorem call_sorted1 (args : Array Value) (w : World) : (callFunc 189 args).run Tryz.prog w = .ok (.enter 189 args) w := by kernel_rfl
theorem esort_own {w : World} {base n c : Nat} {A : Option Addr} {l : List (Int × Int)} (h : w.ownsRow base 237 2 (.slice A n c) n (dcells l)) (hb : base ≤ w.heap.size) (hn : n ≤ 9000000000000) :
    Calls Tryz.prog 188 #[.slice A n c, .func (.func 189) #[] #[]] w fun e w' => e = .returned (.tuple #[]) ∧ ∃ l', (∀ x, x ∈ l' ↔ x ∈ l) ∧ l'.Pairwise (fun x y => ltE y x = false) ∧ w'.ownsRow base 237 2 (.slice A n c) n (dcells l') ∧ Below base w w' := by
  have hl := (rd_own h).dlen
  rcases Nat.eq_zero_or_pos n with h0 | h0
  · subst h0
    obtain rfl : l = [] := List.eq_nil_of_length_eq_zero hl
    refine Calls.mono (AnyF.slices_SortFunc_none Tryz.lSortE A c (.func (.func 189) #[] #[]) w) ?_
    rintro e w' ⟨rfl, rfl⟩
    exact ⟨rfl, [], fun x => Iff.rfl, List.Pairwise.nil, h, Below.refl _ _⟩
  · obtain ⟨g, rfl, hg1, hg2⟩ := own_addr h h0
    have hd : l.toArray.size = n := by simpa using hl
    have hH : HoldsK encP 2 w g 0 l.toArray := by
      unfold HoldsK
      rw [flatK_pairs]
      simpa using holds_own h
    have hcon := AnyQ.slices_SortFunc Tryz.lSortE 2 isAggE sizeOfE encP (fun _ => rfl) (fun x v hv => by simp [encP] at hv; rcases hv with rfl | rfl <;> rfl) cmpE swoE 189 #[] g 0 c l.toArray w call_sorted1 (fun _ _ _ _ x y => by simpa using sorted1_any x y _) hH hg2 (by omega)
    rw [hd] at hcon
    refine Calls.mono hcon ?_
    rintro e w' ⟨rfl, d', m, os, hp, hs, rfl⟩
    obtain ⟨p1, p2, p3⟩ := hp
    have hsz : d'.size = n := by rw [p1, hd]
    have e1 : (d'.extract 0 n).toList = d'.toList := by rw [← hsz]; simp
    have e2 : (l.toArray.extract 0 n).toList = l := by rw [← hd]; simp
    rw [e1, e2] at p3
    refine ⟨rfl, d'.toList, fun x => p3.mem_iff, ?_, ?_⟩
    · rw [List.pairwise_iff_getElem]
      intro i j hi hj hij
      have h1 := hs i j (Nat.zero_le _) hij (by rw [← hsz]; simpa using hj)
      rw [cmpE_lt] at h1
      have hi' : i < d'.size := by simpa using hi
      have hj' : j < d'.size := by simpa using hj
      rw [getElem!_pos d' i hi', getElem!_pos d' j hj'] at h1
      simpa using h1
    · have k1 := own_sorted h (flatK encP 2 d') (by rw [size_flatK, hsz]) m os
      have k2 := sorted_grown w g (flatK encP 2 d') m os
      rw [flatK_pairs] at k1 k2
      have e3 : sortWorldK encP 2 w g 0 m d' os = grow (putRow id (Sort.ahead w m) g 0 (dcells d'.toList).toArray) os := by
        unfold sortWorldK putRowK
        rw [flatK_pairs]
      rw [e3]
      exact ⟨by simpa using k1, (Below.refl _ _).grown k2 hb (fun k hk => by cases hk; exact hg1)⟩

/-! ### odds.Sorted. -/
set_option maxHeartbeats 1000000 in
theorem sortedE_own {w : World} {base n c : Nat} {A : Option Addr} {l : List (Int × Int)} (h : w.ownsRow base 237 2 (.slice A n c) n (dcells l)) (hb : base ≤ w.heap.size) (hn : n ≤ 9000000000000) :
    Calls Tryz.prog 142 #[.slice A n c] w fun e w' => ∃ m, e = .returned (.slice A m c) ∧ w'.ownsRow base 237 2 (.slice A m c) m (dcells (sortS ltE l)) ∧ m ≤ n ∧ Below base w w' := by
  have C := hide (esort_own h hb hn)
  have HL := Lib.hid (rd_own h).dlen
  clear h
  go_enter Tryz.func142, Tryz.ntmps142
  go_wp2_with fail
  refine (unhide C).mono ?_
  rintro e w1 ⟨rfl, l', hm, hp, ho, hb1⟩
  have HE : Hid (compL l' = sortS ltE l) := Lib.hid (comp_sort sloE hm hp)
  have HLE : Hid ((compL l').length ≤ n) := Lib.hid (by
    have h1 := (rd_own ho).dlen
    rw [← h1]
    have : ∀ (t : List (Int × Int)) (p : Int × Int), (compGo p t).length ≤ t.length := by
      intro t
      induction t with
      | nil => intro p; exact Nat.le_refl _
      | cons y t ih => intro p; unfold compGo; split <;> simp <;> have := ih y <;> omega
    cases l' with
    | nil => exact Nat.le_refl _
    | cons x t => simp only [compL, List.length_cons]; have := this t x; omega)
  have C2 := hide (ecompact_own ho (Nat.le_trans hb hb1.size) hn)
  clear C hm hp ho
  go_wp2_with fail
  refine (unhide C2).mono ?_
  rintro e w2 ⟨rfl, ho2, hb2⟩
  go_wp2
  go_ret
  exact ⟨_, rfl, by rw [← HE.out]; exact ho2, HLE.out, hb1.trans hb2⟩
end Go.Proofs.YtaaahfbcpgdoiaaGreatDoor


namespace Go.Proofs.YtaaahfbcpgdoiaaGreatDoor
open Go.RowKit

def pairTx (D : List HOp) (p : Int × Int) : Int × Int := ((D.getD p.1.toNat ⟨0, 0, 0⟩).tx, (D.getD p.2.toNat ⟨0, 0, 0⟩).tx)
theorem pairTx_edges (D : List HOp) : sortS ltE ((pairsL D).map (pairTx D)) = sortS ltE (edgeP D) := by
  refine sortS_ext sloE fun ⟨x, y⟩ => ?_
  rw [mem_edgeP, List.mem_map]
  constructor
  · rintro ⟨⟨p, q⟩, hp, he⟩
    obtain ⟨j, k, a, b, hjk, ha, hb, rfl, rfl, ho⟩ := mem_pairsL.1 hp
    unfold pairTx at he
    simp only [Int.toNat_natCast, List.getD_eq_getElem?_getD, ha, hb, Option.getD_some, Prod.mk.injEq] at he
    exact ⟨j, k, a, b, hjk, ha, hb, ho, he.1.symm, he.2.symm⟩
  · rintro ⟨j, k, a, b, hjk, ha, hb, ho, rfl, rfl⟩
    refine ⟨((j : Int), (k : Int)), mem_pairsL.2 ⟨j, k, a, b, hjk, ha, hb, rfl, rfl, ho⟩, ?_⟩
    unfold pairTx
    simp only [Int.toNat_natCast, List.getD_eq_getElem?_getD, ha, hb, Option.getD_some]
theorem map_snoc {α β : Type} {l : List α} {k : Nat} {x : α} (f : α → β) (h : l[k]? = some x) : (l.take (k + 1)).map f = (l.take k).map f ++ [f x] := by rw [tkSnoc h, List.map_append]; rfl

set_option maxRecDepth 100000 in
set_option maxHeartbeats 8000000 in
theorem edgesOf_any (A : Option Addr) (n cap : Nat) (h : List HOp) (w : World) (hr : Rd w w.heap.size 3 A n (cellsH h)) (hn : n ≤ 40) (ht : ∀ o ∈ h, 1 ≤ o.tx ∧ o.tx ≤ 6) :
    Calls Tryz.prog 90 #[.slice A n cap] w fun e w' => ∃ v m, e = .returned v ∧ w'.ownsRow w.heap.size 237 2 v m (dcells (edgesF h)) ∧ m ≤ 1600 ∧ Below w.heap.size w w' := by
  have hl := hr.hlen
  have hdl : (doneL h).length ≤ 40 := by have := List.length_filter_le (fun o : HOp => (flagsF h).getD o.tx.toNat false) h; unfold doneL; omega
  have C := hide (doneOf_any A n cap h w hr (by omega) ht)
  have HF : Hid (edgesF h = sortS ltE ((pairsL (doneL h)).map (pairTx (doneL h)))) := Lib.hid (by unfold edgesF; rw [pairTx_edges])
  clear hl ht
  generalize edgesF h = R at *
  generalize doneL h = D at *
  go_enter Tryz.func90, Tryz.ntmps90
  go_wp2_with fail
  refine (unhide C).mono ?_
  rintro e w1 ⟨A1, m1, c1, rfl, ho1, hb1⟩
  have hd1 := rd_own ho1
  have hl1 := hd1.hlen
  have C2 := hide (pairs_any A1 m1 c1 D w1 hd1 (by omega))
  have HRD := hide (fun w2 (hb : Below w1.heap.size w1 w2) => hd1.below hb)
  have HL1 := Lib.hid hl1
  clear C ho1 hd1 hl1
  go_wp2_with fail
  refine (unhide C2).mono ?_
  rintro e w2 ⟨v2, mp, rfl, ho2, hmp, hb2⟩
  obtain ⟨A2, c2, rfl⟩ := own_slice ho2
  have hbw2 := hb1.trans (hb2.mono hb1.size)
  have hd2 := rd_own ho2
  have HLP := Lib.hid hd2.dlen
  have HRP := hide (fun w3 (hb : Below w2.heap.size w2 w3) => hd2.below hb)
  clear C2 ho2 hd2
  go_wp2
  go_loopw [3, 11] (fun s3 s11 wr => ∃ k : Nat, k ≤ mp ∧ s11 = .int .i64 k ∧ wr.ownsRow w2.heap.size 237 2 s3 k (dcells (((pairsL D).take k).map (pairTx D))) ∧ Below w2.heap.size w2 wr) (fun _ s11 _ => mp - (intOf s11).toNat)
  case atStart => exact ⟨0, Nat.zero_le _, rfl, World.ownsRow_nil _ _ _ _, Below.refl _ _⟩
  case round =>
    obtain ⟨k, hk, rfl, ho3, hb3⟩ := hrel
    obtain ⟨A3, c3, rfl⟩ := own_slice ho3
    have hb13 := hb2.trans (hb3.mono hb2.size)
    by_cases hlt : k < mp
    · obtain ⟨b, off, p, he, hb, hp, c0, c1'⟩ := (unhide HRP wr hb3).pr (k := k) hlt
      cases he
      have HS := Lib.hid (map_snoc (pairTx D) hp)
      obtain ⟨x, y⟩ := p
      obtain ⟨i, j, a, d, hij, ha, hd, rfl, rfl, _⟩ := mem_pairsL.1 (List.mem_of_getElem? hp)
      have hil : i < m1 := by rw [← HL1.out]; exact (List.getElem?_eq_some_iff.1 ha).1
      have hjl : j < m1 := by rw [← HL1.out]; exact (List.getElem?_eq_some_iff.1 hd).1
      obtain ⟨b1, o1, a', he, hb1', ha', d0, d1, d2⟩ := (unhide HRD wr hb13).op (k := i) hil
      cases he
      obtain ⟨_, _, d', he, _, hd', f0, f1, f2⟩ := (unhide HRD wr hb13).op (k := j) hjl
      cases he
      rw [ha] at ha'
      cases ha'
      rw [hd] at hd'
      cases hd'
      have HP : Hid (pairTx D ((i : Int), (j : Int)) = (a.tx, d.tx)) := Lib.hid (by
        unfold pairTx
        simp only [Int.toNat_natCast, List.getD_eq_getElem?_getD, ha, hd, Option.getD_some])
      have hz := hb3.size
      have hz1 := hb13.size
      have n0 : (0 : Int) ≤ (i : Int) := by omega
      have n1 : (i : Int) < (m1 : Int) := by omega
      have n2 : (0 : Int) ≤ (j : Int) := by omega
      have n3 : (j : Int) < (m1 : Int) := by omega
      have hbo : b < wr.heap.size := by omega
      have hbo1 : b1 < wr.heap.size := by omega
      clear ha hd hp d1 d2 f1 f2 hij
      simp only at c0 c1'
      obtain ⟨tx1, what1, item1⟩ := a
      obtain ⟨tx2, what2, item2⟩ := d
      simp only at d0 f0 HP
      go_wp2
      have B5 := Blk.new wr 237 [.int .i64 (i : Int), .int .i64 (j : Int)]
      have ho5 := own_alloc ho3 (.cells #[.int .i64 (i : Int), .int .i64 (j : Int)] 237)
      have hb5 : Below w2.heap.size w2 (wr.alloc (.cells #[.int .i64 (i : Int), .int .i64 (j : Int)] 237)) := hb3.alloc hz _
      have g0 : (wr.alloc (.cells #[.int .i64 (i : Int), .int .i64 (j : Int)] 237)).cell? ⟨b1, o1 + i * 3, none⟩ = some (.int .i64 tx1) := (World.cell?_alloc_lt _ _ _ hbo1).trans d0
      have g1 : (wr.alloc (.cells #[.int .i64 (i : Int), .int .i64 (j : Int)] 237)).cell? ⟨b1, o1 + j * 3, none⟩ = some (.int .i64 tx2) := (World.cell?_alloc_lt _ _ _ hbo1).trans f0
      have hne : ∀ kk, (Value.slice A3 k c3).ownBlock = some kk → wr.heap.size ≠ kk := fun kk hkk => by have := (ho3.lt kk hkk).2; omega
      have hxz : wr.heap.size < (wr.alloc (.cells #[.int .i64 (i : Int), .int .i64 (j : Int)] 237)).heap.size := by simp
      obtain ⟨wx, hwx⟩ : ∃ wx, wr.alloc (.cells #[.int .i64 (i : Int), .int .i64 (j : Int)] 237) = wx := ⟨_, rfl⟩
      have B5' : Blk wx wr.heap.size 237 [.int .i64 (i : Int), .int .i64 (j : Int)] := by rw [← hwx]; exact B5
      rw [hwx] at ho5 hb5 g0 g1 hxz
      rw [hwx]
      have hz5 := hb5.size
      have hbw1 : b1 < w2.heap.size := by have := hb2.size; omega
      have ho6 : wx.drew.ownsRow w2.heap.size 237 2 (.slice A3 k c3) k (dcells (((pairsL D).take k).map (pairTx D))) := ho5
      have hb6 : Below w2.heap.size w2 wx.drew := hb5.drew
      clear B5 hwx d0 f0 c0 c1' ho3 hb3 hb13 hbo hbo1 hz hz1
      generalize wr.heap.size = ob at *
      have e0 := B5'.cellS (i := 0) (v := .int .i64 (i : Int)) rfl
      have e1 := B5'.cellS (i := 1) (v := .int .i64 (j : Int)) rfl
      have oneX := oneD [(tx1, tx2)]
      go_region_held3 (fun w' => w'.cell? ⟨ob, 0, none⟩ = some (.int .i64 (i : Int)) ∧ w'.cell? ⟨ob, 1, none⟩ = some (.int .i64 (j : Int)) ∧ w'.cell? ⟨b1, o1 + i * 3, none⟩ = some (.int .i64 tx1) ∧ w'.cell? ⟨b1, o1 + j * 3, none⟩ = some (.int .i64 tx2)) (first | exact hcell7 | exact ⟨e0, e1, g0, g1⟩ | exact ⟨(World.cell?_alloc_lt wx _ _ hxz).trans e0, (World.cell?_alloc_lt wx _ _ hxz).trans e1, (World.cell?_alloc_lt wx _ _ (show b1 < wx.heap.size from by omega)).trans g0, (World.cell?_alloc_lt wx _ _ (show b1 < wx.heap.size from by omega)).trans g1⟩ | go_keep)
        (first
          | ((refine step_app rfl (.tmp 15) (.tmp 29) _ rfl w2.heap.size slt_edge (n := k) (xs := dcells (((pairsL D).take k).map (pairTx D))) (m := 1) (news := dcells [(tx1, tx2)]) rfl (own_alloc ho6 _) rfl (rd_new' _ _ (dcells [(tx1, tx2)]) (by simp) rfl) oneX (by omega) (by simp; omega) ?_; intro v7 w7 hown7 hg7 hb7; have hB7 := (((B5'.drew).alloc (.cells (dcells [(tx1, tx2)]).toArray 237)).grown hg7 hne); have hcell7 : w7.cell? ⟨ob, 0, none⟩ = some (.int .i64 (i : Int)) ∧ w7.cell? ⟨ob, 1, none⟩ = some (.int .i64 (j : Int)) ∧ w7.cell? ⟨b1, o1 + i * 3, none⟩ = some (.int .i64 tx1) ∧ w7.cell? ⟨b1, o1 + j * 3, none⟩ = some (.int .i64 tx2) := ⟨hB7.cellS rfl, hB7.cellS rfl, (hb7.cell (p := ⟨b1, _, none⟩) hbw1).trans ((World.cell?_alloc_lt wx _ _ (show b1 < wx.heap.size from by omega)).trans g0), (hb7.cell (p := ⟨b1, _, none⟩) hbw1).trans ((World.cell?_alloc_lt wx _ _ (show b1 < wx.heap.size from by omega)).trans g1)⟩)))
      rw [← dcells_append, ← HP.out, ← HS.out] at hown7
      have hb8 := (hb6.alloc hb6.size (.cells (dcells [(tx1, tx2)]).toArray 237)).trans hb7
      go_wp2
      go_roundw
      case rel => exact ⟨k + 1, by omega, by go_num, hown7, hb8⟩
      case measure => simp [intOf]; omega
    · have HT : Hid ((pairsL D).take k = pairsL D) := Lib.hid (List.take_of_length_le (by rw [HLP.out]; omega))
      rw [HT.out] at ho3
      have C3 := hide (sortedE_own ho3 hb3.size (by omega))
      have hbw3 := hbw2.trans (hb3.mono hbw2.size)
      go_wp2_with fail
      refine (unhide C3).mono ?_
      rintro e w4 ⟨m4, rfl, ho4, hm4, hb4⟩
      go_wp2
      go_ret
      exact ⟨_, _, rfl, by rw [HF.out]; exact own_mono ho4 hbw2.size, by omega, hbw2.trans ((hb3.trans hb4).mono hbw2.size)⟩

end Go.Proofs.YtaaahfbcpgdoiaaGreatDoor


namespace Go.Proofs.YtaaahfbcpgdoiaaGreatDoor
open Go.RowKit

def ordE (h : List HOp) : Int := if (checkF h).2 ≠ 0 then (checkF h).2 else match orderOf h with | some _ => 0 | none => 8
def ordL (h : List HOp) : List Int := if (checkF h).2 ≠ 0 then [] else (orderOf h).getD []
theorem ord_some {h : List HOp} (hk : okH h) {o : List Int} (ho : orderOf h = some o) : ordE h = 0 ∧ ordL h = o := by
  unfold ordE ordL
  rw [if_neg (fun e => e hk), if_neg (fun e => e hk), ho]
  exact ⟨rfl, rfl⟩
theorem ord_none {h : List HOp} (hk : okH h) (ho : orderOf h = none) : ordE h = 8 ∧ ordL h = [] := by
  unfold ordE ordL
  rw [if_neg (fun e => e hk), if_neg (fun e => e hk), ho]
  exact ⟨rfl, rfl⟩
theorem ord_bad {h : List HOp} (hk : ¬ okH h) : ordE h = (checkF h).2 ∧ ordL h = [] := by
  unfold ordE ordL
  rw [if_pos (show (checkF h).2 ≠ 0 from hk), if_pos (show (checkF h).2 ≠ 0 from hk)]
  exact ⟨rfl, rfl⟩
theorem doneL_len (h : List HOp) : (doneL h).length ≤ h.length := by
  have := List.length_filter_le (fun o : HOp => (flagsF h).getD o.tx.toNat false) h
  unfold doneL; omega
def OrdPost (h : List HOp) (w : World) (e : Ending) (w' : World) : Prop :=
  ∃ v k r L, e = .returned (.tuple #[v, .bool r]) ∧ w'.ownsRow w.heap.size 3 1 v k (cellsI L) ∧ ((orderOf h = some L ∧ r = true) ∨ (orderOf h = none ∧ r = false ∧ L = [])) ∧ Below w.heap.size w w'

set_option maxRecDepth 100000 in
set_option maxHeartbeats 4000000 in
theorem orderOf_any (A : Option Addr) (n cap : Nat) (h : List HOp) (w : World) (hr : Rd w w.heap.size 3 A n (cellsH h)) (hok : okH h) :
    Calls Tryz.prog 48 #[.slice A n cap] w (OrdPost h w) := by
  have hn : n ≤ 40 := by rw [← hr.hlen]; exact okH_len hok
  have hdl : (doneL h).length ≤ 40 := Nat.le_trans (doneL_len h) (okH_len hok)
  have C0 := hide (doneOf_any A n cap h w hr (by omega) (okH_tx hok))
  have CE := hide (fun w1 (hb : Below w.heap.size w w1) => edgesOf_any A n cap h w1 ((hr.below hb).more hb.size) hn (okH_tx hok))
  have HF : Hid (orderOf h = topF (edgesF h) (dealsL (doneL h))) := Lib.hid rfl
  have HD := Lib.hid hdl
  clear hr hok hdl
  generalize doneL h = D at *
  generalize edgesF h = E at *
  go_enter Tryz.func48, Tryz.ntmps48
  go_wp2_with fail
  refine (unhide C0).mono ?_
  rintro e w1 ⟨A1, m1, c1, rfl, ho1, hb1⟩
  have hd1 := rd_own ho1
  have hm1 : m1 ≤ 40 := by rw [← hd1.hlen]; exact HD.out
  have C1 := hide (dealsOf_any A1 m1 c1 D w1 hd1 (by omega))
  clear C0 ho1 hd1
  go_wp2_with fail
  refine (unhide C1).mono ?_
  rintro e w2 ⟨v2, m2, rfl, ho2, hm2, hb2⟩
  obtain ⟨A2, c2, rfl⟩ := own_slice ho2
  have hbw2 := hb1.trans (hb2.mono hb1.size)
  have hd2 := rd_own ho2
  have C2 := hide (unhide CE w2 hbw2)
  clear C1 ho2 hb2 CE hb1
  go_wp2_with fail
  refine (unhide C2).mono ?_
  rintro e w3 ⟨v3, m3, rfl, ho3, hm3, hb3⟩
  obtain ⟨A3, c3, rfl⟩ := own_slice ho3
  have hbw3 := hbw2.trans (hb3.mono hbw2.size)
  have hd3 := rd_own ho3
  have C3 := hide (gsort_any A2 m2 c2 (dealsL D) A3 m3 c3 E w3 ((hd2.below hb3).more hb3.size) hd3 (by omega) (by omega))
  clear C2 ho3 hb3 hd2 hd3 hbw2
  go_wp2_with fail
  refine (unhide C3).mono ?_
  rintro e w4 ⟨v4, k4, r4, L4, rfl, ho4, hcs, hb4⟩
  have HC := Lib.hid hcs
  have ho5 := own_mono ho4 hbw3.size
  have hbw4 := hbw3.trans (hb4.mono hbw3.size)
  clear hcs C3 ho4 hb4 hbw3
  go_wp2
  go_ret2
  refine ⟨v4, k4, r4, L4, rfl, ho5, ?_, hbw4⟩
  rw [HF.out]
  exact HC.out

set_option maxRecDepth 100000 in
set_option maxHeartbeats 4000000 in
theorem sorder_any (A : Option Addr) (n cap : Nat) (h : List HOp) (w : World) (hr : Rd w w.heap.size 3 A n (cellsH h)) (hm : n ≤ 6000000000000) :
    Calls Tryz.prog 24 #[.slice A n cap] w fun e w' => ∃ v k, e = .returned (.tuple #[v, errV (ordE h)]) ∧ w'.ownsRow w.heap.size 3 1 v k (cellsI (ordL h)) ∧ Below w.heap.size w w' := by
  have C0 := hide (right_h A n cap h w hr hm)
  by_cases hok : okH h
  · have CO := hide (fun w1 (hb : Below w.heap.size w w1) => orderOf_any A n cap h w1 ((hr.below hb).more hb.size) hok)
    rw [show (checkF h).2 = 0 from hok, errV_zero] at C0
    have HS := Lib.hid (fun o => ord_some hok (o := o))
    have HN := Lib.hid (ord_none hok)
    clear hr hok
    generalize ordE h = E at *
    generalize ordL h = L at *
    go_enter Tryz.func24, Tryz.ntmps24
    go_wp2_with fail
    refine (unhide C0).mono ?_
    rintro e w1 ⟨rfl, hb1⟩
    have C1 := hide (unhide CO w1 hb1)
    clear C0 CO
    go_wp2_with fail
    refine (unhide C1).mono ?_
    rintro e w2 ⟨v2, k2, r2, L2, rfl, ho2, hcs, hb2⟩
    obtain ⟨A2, c2, rfl⟩ := own_slice ho2
    have hbw2 := hb1.trans (hb2.mono hb1.size)
    have ho3 := own_mono ho2 hb1.size
    clear C1 ho2 hb2 hb1
    rcases hcs with ⟨ht, rfl⟩ | ⟨ht, rfl, rfl⟩
    · have HH := Lib.hid (HS.out _ ht)
      clear ht HS HN
      go_wp2
      go_ret2
      exact ⟨_, _, by rw [HH.out.1]; rfl, by rw [HH.out.2]; exact ho3, hbw2⟩
    · have HH := Lib.hid (HN.out ht)
      clear ht HS HN
      go_wp2
      go_ret2
      exact ⟨_, 0, by rw [HH.out.1]; rfl, by rw [HH.out.2]; exact World.ownsRow_nil _ _ _ _, hbw2⟩
  · have HB := Lib.hid (ord_bad hok)
    rw [HB.out.1, HB.out.2]
    rw [ne_errV (show (checkF h).2 ≠ 0 from hok)] at C0 ⊢
    generalize (checkF h).2 = ev at *
    clear HB hok hr
    go_enter Tryz.func24, Tryz.ntmps24
    go_wp2_with fail
    refine (unhide C0).mono ?_
    rintro e w1 ⟨rfl, hb1⟩
    go_wp2
    go_ret2
    exact ⟨_, 0, rfl, World.ownsRow_nil _ _ _ _, hb1⟩

/-! ### Is each deal in one piece? -/
theorem nat_beq (a b : Nat) : decide (a = b) = ((a : Int) == (b : Int)) := by
  rw [Bool.eq_iff_iff]; simp; omega
def isV (h : List HOp) : Bool := decide ((checkF h).2 = 0) && isF (doneL h)
end Go.Proofs.YtaaahfbcpgdoiaaGreatDoor
