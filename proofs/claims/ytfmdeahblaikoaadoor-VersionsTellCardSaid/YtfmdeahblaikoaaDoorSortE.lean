
/-
  CONTRACTS of cmp.Compare, cmp.Or at numbers, of the order of edges that odds.Sorted hands on, of slices.SortFunc at edges by the shelf's, of odds.Sorted.
-/
import Derived.Test.YtfmdeahblaikoaaDoorLaysE
import Derived.Test.YtfmdeahblaikoaaDoorSortW
import Derived.Test.YtfmdeahblaikoaaDoorCompE
import Derived.Shelf.SlSortCmp.WholeK
import Derived.Shelf.SlSortCmp.NoneTotal
import Derived.StillTailTactics

namespace Go.Proofs.YtfmdeahblaikoaaDoor
open Go.RowKit Go.Sort Go.Shelf

theorem isNaN_any (x : Int) (w : World) : Calls Tryd.prog 71 #[.int .i64 x] w fun e w' => e = .returned (.bool false) ∧ w' = w := by
  go_enter Tryd.func71, Tryd.ntmps71
  go_wp2
  go_ret
  exact ⟨by simp, rfl⟩
def cmpI (x y : Int) : Int := if x < y then -1 else if y < x then 1 else 0
theorem compare_any (x y : Int) (w : World) : Calls Tryd.prog 35 #[.int .i64 x, .int .i64 y] w fun e w' => e = .returned (.int .i64 (cmpI x y)) ∧ w' = w := by
  have C := hide (fun x w => isNaN_any x w)
  by_cases h1 : x < y
  · have HF : Hid (cmpI x y = -1) := Lib.hid (by unfold cmpI; rw [if_pos h1])
    go_enter Tryd.func35, Tryd.ntmps35
    go_wp2_with fail
    refine (unhide C _ _).mono ?_
    rintro e w' ⟨rfl, rfl⟩
    go_wp2_with fail
    refine (unhide C _ _).mono ?_
    rintro e w' ⟨rfl, rfl⟩
    go_wp2
    go_ret
    exact ⟨by rw [HF.out]; rfl, rfl⟩
  · by_cases h2 : y < x
    · have HF : Hid (cmpI x y = 1) := Lib.hid (by unfold cmpI; rw [if_neg h1, if_pos h2])
      go_enter Tryd.func35, Tryd.ntmps35
      go_wp2_with fail
      refine (unhide C _ _).mono ?_
      rintro e w' ⟨rfl, rfl⟩
      go_wp2_with fail
      refine (unhide C _ _).mono ?_
      rintro e w' ⟨rfl, rfl⟩
      go_wp2
      go_ret
      exact ⟨by rw [HF.out]; rfl, rfl⟩
    · have HF : Hid (cmpI x y = 0) := Lib.hid (by unfold cmpI; rw [if_neg h1, if_neg h2])
      go_enter Tryd.func35, Tryd.ntmps35
      go_wp2_with fail
      refine (unhide C _ _).mono ?_
      rintro e w' ⟨rfl, rfl⟩
      go_wp2_with fail
      refine (unhide C _ _).mono ?_
      rintro e w' ⟨rfl, rfl⟩
      go_wp2
      go_ret
      exact ⟨by rw [HF.out]; rfl, rfl⟩

def orI (a b : Int) : Int := if a = 0 then b else a
theorem or_any (a b : Int) (g c : Nat) (w : World) (hB : Blk w g 3 (cellsI [a, b])) : Calls Tryd.prog 89 #[.slice (some ⟨g, 0, none⟩) 2 c] w fun e w' => e = .returned (.int .i64 (orI a b)) ∧ w' = w := by
  have c0 := hB.cellS (i := 0) (v := .int .i64 a) rfl
  have c1 := hB.cellS (i := 1) (v := .int .i64 b) rfl
  have HF : Hid (orI a b = if a = 0 then b else a) := Lib.hid rfl
  generalize orI a b = R at *
  clear hB
  go_enter Tryd.func89, Tryd.ntmps89
  go_wp2
  go_loop [8] (fun s8 => ∃ i : Nat, i ≤ 2 ∧ s8 = .int .i64 i ∧ Hid ((1 ≤ i → a = 0) ∧ (2 ≤ i → b = 0))) (fun s8 => 2 - (intOf s8).toNat)
  case atStart => exact ⟨0, by omega, rfl, Lib.hid ⟨by omega, by omega⟩⟩
  case round =>
    obtain ⟨i, hi, rfl, HI⟩ := hrel
    obtain hi0 | hi1 | hi2 : i = 0 ∨ i = 1 ∨ i = 2 := by omega
    · subst hi0
      by_cases ha : a = 0
      · have HI2 : Hid ((1 ≤ 1 → a = 0) ∧ (2 ≤ 1 → b = 0)) := Lib.hid ⟨fun _ => ha, by omega⟩
        have ha' : (a != 0) = false := by simpa using ha
        clear ha HI
        go_wp2
        go_round
        case rel => exact ⟨1, by omega, rfl, HI2⟩
        case measure => simp [intOf]
      · have HR : Hid (R = a) := Lib.hid (by rw [HF.out, if_neg ha])
        have ha' : (a != 0) = true := by simpa using ha
        clear ha HI
        go_wp2
        go_ret
        exact ⟨ret_int HR.out.symm, rfl⟩
    · subst hi1
      have ha := HI.out.1 (by omega)
      by_cases hb : b = 0
      · have HI2 : Hid ((1 ≤ 2 → a = 0) ∧ (2 ≤ 2 → b = 0)) := Lib.hid ⟨fun _ => ha, fun _ => hb⟩
        have hb' : (b != 0) = false := by simpa using hb
        clear ha hb HI
        go_wp2
        go_round
        case rel => exact ⟨2, by omega, rfl, HI2⟩
        case measure => simp [intOf]
      · have HR : Hid (R = b) := Lib.hid (by rw [HF.out, if_pos ha])
        have hb' : (b != 0) = true := by simpa using hb
        clear ha hb HI
        go_wp2
        go_ret
        exact ⟨ret_int HR.out.symm, rfl⟩
    · subst hi2
      have HR : Hid (R = 0) := Lib.hid (by rw [HF.out, if_pos (HI.out.1 (by omega)), HI.out.2 (by omega)])
      clear HI
      go_wp2
      go_ret
      exact ⟨ret_int HR.out.symm, rfl⟩

theorem grow3 (W : World) (a b c : Obj) : (((W.alloc a).alloc b).alloc c).drew = grow (W.drewN 1) #[a, b, c] := by
  rw [alloc_eq_grow, alloc_eq_grow, alloc_eq_grow, grow_grow, grow_grow]; rfl
def cmpE (x y : Int × Int) : Int := orI (cmpI x.1 y.1) (cmpI x.2 y.2)
set_option maxRecDepth 100000 in
set_option maxHeartbeats 2000000 in
theorem sorted1_any (x y : Int × Int) (W : World) : Calls Tryd.prog 88 #[.agg (encP x).toArray, .agg (encP y).toArray] W fun e w' => e = .returned (.int .i64 (cmpE x y)) ∧ ∃ q os, w' = grow (W.drewN q) os := by
  obtain ⟨x1, x2⟩ := x
  obtain ⟨y1, y2⟩ := y
  have C := hide (fun x y w => compare_any x y w)
  have HO := hide (fun a b g c w => or_any a b g c w)
  have HE : Hid (cmpE (x1, x2) (y1, y2) = orI (cmpI x1 y1) (cmpI x2 y2)) := Lib.hid rfl
  generalize cmpE (x1, x2) (y1, y2) = R at *
  unfold encP
  simp only
  go_enter Tryd.func88, Tryd.ntmps88
  go_wp2
  have B0 : Blk ((W.alloc (.cells #[.int .i64 x1, .int .i64 x2] 124)).alloc (.cells #[.int .i64 y1, .int .i64 y2] 124)) W.heap.size 124 [.int .i64 x1, .int .i64 x2] := (Blk.new W 124 [.int .i64 x1, .int .i64 x2]).alloc _
  have B1 : Blk ((W.alloc (.cells #[.int .i64 x1, .int .i64 x2] 124)).alloc (.cells #[.int .i64 y1, .int .i64 y2] 124)) (W.heap.size + 1) 124 [.int .i64 y1, .int .i64 y2] := by
    have := Blk.new (W.alloc (.cells #[.int .i64 x1, .int .i64 x2] 124)) 124 [.int .i64 y1, .int .i64 y2]
    simpa using this
  obtain ⟨W2, hW2⟩ : ∃ W2, (W.alloc (.cells #[.int .i64 x1, .int .i64 x2] 124)).alloc (.cells #[.int .i64 y1, .int .i64 y2] 124) = W2 := ⟨_, rfl⟩
  rw [hW2] at B0 B1 ⊢
  have HW2 := Lib.hid hW2
  have c0 := B0.cellS (i := 0) (v := .int .i64 x1) rfl
  have c1 := B0.cellS (i := 1) (v := .int .i64 x2) rfl
  have d0 := B1.cellS (i := 0) (v := .int .i64 y1) rfl
  have d1 := B1.cellS (i := 1) (v := .int .i64 y2) rfl
  clear hW2 B0 B1
  go_still_tail 10, (by kernel_rfl)
  still_call (unhide C _ _ _)
  repeat still_step
  still_call (unhide C _ _ _)
  refine wpStill_nil ?_
  change wpList _ _ _ _ _ W2.drew
  go_wp2_with fail
  refine (unhide HO (cmpI x1 y1) (cmpI x2 y2) W2.heap.size 2 ((W2.alloc (.cells #[.int .i64 (cmpI x1 y1), .int .i64 (cmpI x2 y2)] 3)).drew) (Blk.drew (Blk.new W2 3 (cellsI [cmpI x1 y1, cmpI x2 y2])))).mono ?_
  rintro e w' ⟨rfl, rfl⟩
  go_wp2
  go_ret
  exact ⟨ret_int HE.out.symm, 1, #[.cells #[.int .i64 x1, .int .i64 x2] 124, .cells #[.int .i64 y1, .int .i64 y2] 124, .cells #[.int .i64 (cmpI x1 y1), .int .i64 (cmpI x2 y2)] 3], by rw [← HW2.out]; exact grow3 _ _ _ _⟩
theorem cmpE_lt (x y : Int × Int) : ltOf cmpE x y = ltE x y := by
  obtain ⟨x1, x2⟩ := x
  obtain ⟨y1, y2⟩ := y
  unfold ltOf cmpE ltE orI cmpI
  simp only
  by_cases h1 : x1 < y1
  · simp [h1]
  · by_cases h2 : y1 < x1
    · simp [h1, h2]; omega
    · have : x1 = y1 := by omega
      subst this
      by_cases h3 : x2 < y2
      · simp [h3]
      · by_cases h4 : y2 < x2 <;> simp [h3, h4]
theorem swoE : SWO (ltOf cmpE) where
  irrefl x := by rw [cmpE_lt]; exact sloE.irr x
  trans x y z h1 h2 := by rw [cmpE_lt] at *; exact sloE.trans x y z h1 h2
  ntrans x y z h1 h2 := by rw [cmpE_lt] at *; simp [ltE] at *; omega
theorem isAggE : ∀ w, (isAgg 124).run Tryd.prog w = .ok true w := fun w => by kernel_rfl
theorem sizeOfE : ∀ w, (Go.sizeOf 124).run Tryd.prog w = .ok 2 w := fun w => by kernel_rfl
theorem call_sorted1 (args : Array Value) (w : World) : (callFunc 88 args).run Tryd.prog w = .ok (.enter 88 args) w := by kernel_rfl
theorem esort_own {w : World} {base n c : Nat} {A : Option Addr} {l : List (Int × Int)} (h : w.ownsRow base 124 2 (.slice A n c) n (dcells l)) (hb : base ≤ w.heap.size) (hn : n ≤ 9000000000000) :
    Calls Tryd.prog 87 #[.slice A n c, .func (.func 88) #[] #[]] w fun e w' => e = .returned (.tuple #[]) ∧ ∃ l', (∀ x, x ∈ l' ↔ x ∈ l) ∧ l'.Pairwise (fun x y => ltE y x = false) ∧ w'.ownsRow base 124 2 (.slice A n c) n (dcells l') ∧ Below base w w' := by
  have hl := (rd_own h).dlen
  rcases Nat.eq_zero_or_pos n with h0 | h0
  · subst h0
    obtain rfl : l = [] := List.eq_nil_of_length_eq_zero hl
    refine Calls.mono (AnyF.slices_SortFunc_none Tryd.lSortE A c (.func (.func 88) #[] #[]) w) ?_
    rintro e w' ⟨rfl, rfl⟩
    exact ⟨rfl, [], fun x => Iff.rfl, List.Pairwise.nil, h, Below.refl _ _⟩
  · obtain ⟨g, rfl, hg1, hg2⟩ := own_addr h h0
    have hd : l.toArray.size = n := by simpa using hl
    have hH : HoldsK encP 2 w g 0 l.toArray := by
      unfold HoldsK
      rw [flatK_pairs]
      simpa using holds_own h
    have hcon := AnyQ.slices_SortFunc Tryd.lSortE 2 isAggE sizeOfE encP (fun _ => rfl) (fun x v hv => by simp [encP] at hv; rcases hv with rfl | rfl <;> rfl) cmpE swoE 88 #[] g 0 c l.toArray w call_sorted1 (fun _ _ _ _ x y => by simpa using sorted1_any x y _) hH hg2 (by omega)
    rw [hd] at hcon
    refine Calls.mono hcon ?_
    rintro e w' ⟨rfl, d', m, os, hp, hs, rfl⟩
    obtain ⟨p1, p2, p3⟩ := hp
    have hsz : d'.size = n := by rw [p1, hd]
    have e1 : (d'.extract 0 n).toList = d'.toList := by rw [← hsz]; simp
    have e2 : (l.toArray.extract 0 n).toList = l := by rw [← hd]; simp
    rw [e1, e2] at p3
    refine ⟨rfl, d'.toList, fun x => p3.mem_iff, ?_, ?_⟩
    · rw [List.pairwise_iff_getElem]
      intro i j hi hj hij
      have h1 := hs i j (Nat.zero_le _) hij (by rw [← hsz]; simpa using hj)
      rw [cmpE_lt] at h1
      have hi' : i < d'.size := by simpa using hi
      have hj' : j < d'.size := by simpa using hj
      rw [getElem!_pos d' i hi', getElem!_pos d' j hj'] at h1
      simpa using h1
    · have k1 := own_sorted h (flatK encP 2 d') (by rw [size_flatK, hsz]) m os
      have k2 := sorted_grown w g (flatK encP 2 d') m os
      rw [flatK_pairs] at k1 k2
      have e3 : sortWorldK encP 2 w g 0 m d' os = grow (putRow id (Sort.ahead w m) g 0 (dcells d'.toList).toArray) os := by
        unfold sortWorldK putRowK
        rw [flatK_pairs]
      rw [e3]
      exact ⟨by simpa using k1, (Below.refl _ _).grown k2 hb (fun k hk => by cases hk; exact hg1)⟩

/-! ### odds.Sorted. -/
set_option maxHeartbeats 1000000 in
theorem sortedE_own {w : World} {base n c : Nat} {A : Option Addr} {l : List (Int × Int)} (h : w.ownsRow base 124 2 (.slice A n c) n (dcells l)) (hb : base ≤ w.heap.size) (hn : n ≤ 9000000000000) :
    Calls Tryd.prog 63 #[.slice A n c] w fun e w' => ∃ m, e = .returned (.slice A m c) ∧ w'.ownsRow base 124 2 (.slice A m c) m (dcells (sortS ltE l)) ∧ m ≤ n ∧ Below base w w' := by
  have C := hide (esort_own h hb hn)
  have HL := Lib.hid (rd_own h).dlen
  clear h
  go_enter Tryd.func63, Tryd.ntmps63
  go_wp2_with fail
  refine (unhide C).mono ?_
  rintro e w1 ⟨rfl, l', hm, hp, ho, hb1⟩
  have HE : Hid (compL l' = sortS ltE l) := Lib.hid (comp_sort sloE hm hp)
  have HLE : Hid ((compL l').length ≤ n) := Lib.hid (by
    have h1 := (rd_own ho).dlen
    rw [← h1]
    have : ∀ (t : List (Int × Int)) (p : Int × Int), (compGo p t).length ≤ t.length := by
      intro t
      induction t with
      | nil => intro p; exact Nat.le_refl _
      | cons y t ih => intro p; unfold compGo; split <;> simp <;> have := ih y <;> omega
    cases l' with
    | nil => exact Nat.le_refl _
    | cons x t => simp only [compL, List.length_cons]; have := this t x; omega)
  have C2 := hide (ecompact_own ho (Nat.le_trans hb hb1.size) hn)
  clear C hm hp ho
  go_wp2_with fail
  refine (unhide C2).mono ?_
  rintro e w2 ⟨rfl, ho2, hb2⟩
  go_wp2
  go_ret
  exact ⟨_, rfl, by rw [← HE.out]; exact ho2, HLE.out, hb1.trans hb2⟩
end Go.Proofs.YtfmdeahblaikoaaDoor
