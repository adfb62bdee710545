
/-
  CONTRACTS of the references' laneref1.Graph, Put.
  CONTRACT of the reference's laneref1.Sort: deals along edges, the least first; or it goes around.
  A table of seven rows of seven Bools that tells which edges there are, and CONTRACT of the reference's laneref1.Ring.
-/
import Derived.Test.YtbccnafdfeempaaGreatDoorQ24
import Derived.Test.YtbccnafdfeempaaGreatDoorPieces
import Derived.Test.YtbccnafdfeempaaGreatDoorQ25
import Derived.StillTailTactics
import Derived.Laws.CopyOwn

namespace Go.Proofs.YtbccnafdfeempaaGreatDoor
open Go.RowKit

/-! ### Put. -/
theorem insS_step {x y : Int} {l t : List Int} (h : l = y :: t) : insS ltI x l = if y < x then y :: insS ltI x t else if y = x then y :: t else x :: y :: t := by
  rw [h, insS]
  by_cases h1 : y < x
  · rw [if_pos (by simp [ltI, h1]), if_pos h1]
  · rw [if_neg (by simp [ltI]; omega), if_neg h1]

set_option maxHeartbeats 2000000 in
theorem rput_any (A : Option Addr) (n c : Nat) (l : List Int) (x : Int) (w : World) (hr : Rd w w.heap.size 1 A n (cellsI l)) (hm : n ≤ 17592186044000) :
    Calls Tryz.prog 53 #[.slice A n c, .int .i64 x] w fun e w' => ∃ v, e = .returned v ∧ w'.ownsRow w.heap.size 3 1 v (insS ltI x l).length (cellsI (insS ltI x l)) ∧ Below w.heap.size w w' := by
  have HL := Lib.hid hr.ilen
  have HR : Hid (insS ltI x l = [] ++ insS ltI x (l.drop 0)) := Lib.hid (by rw [List.drop_zero, List.nil_append])
  generalize insS ltI x l = R at *
  go_enter Tryz.func53, Tryz.ntmps53
  go_wp2
  go_loopw [5, 6, 7] (fun s5 s6 s7 wr => ∃ (k : Nat) (dn : Bool) (acc : List Int), k ≤ n ∧ acc.length + (if dn then 0 else 1) ≤ k + 1 ∧ s7 = .int .i64 k ∧ s6 = .bool dn ∧ wr.ownsRow w.heap.size 3 1 s5 acc.length (cellsI acc) ∧ Hid (R = acc ++ (if dn then l.drop k else insS ltI x (l.drop k))) ∧ Below w.heap.size w wr) (fun _ _ s7 _ => n - (intOf s7).toNat)
  case atStart => exact ⟨0, false, [], Nat.zero_le _, by simp, rfl, rfl, World.ownsRow_nil _ _ _ _, HR, Below.refl _ _⟩
  case round =>
    clear HR
    obtain ⟨k, dn, acc, hk, hal, rfl, rfl, ho5, HE, hbw⟩ := hrel
    obtain ⟨A5, c5, rfl⟩ := own_slice ho5
    have hz := hbw.size
    by_cases hlt : k < n
    · obtain ⟨b, off, y, he, hb, hy, c0⟩ := (hr.below hbw).int (k := k) (by omega)
      cases he
      have HD := Lib.hid (drop_at hy)
      have HI := Lib.hid (insS_step (x := x) (drop_at hy))
      have hbl : b < wr.heap.size := by omega
      have keep : ∀ w5 : World, Below w.heap.size wr w5 → w5.cell? ⟨b, off + k, none⟩ = some (.int .i64 y) := fun w5 h5 => (h5.cell (p := ⟨b, off + k, none⟩) hb).trans c0
      have KEEP := hide keep
      clear hy keep
      cases dn
      · simp at hal
        rcases Int.lt_trichotomy y x with h1 | h1 | h1
        · have HE2 : Hid (R = (acc ++ [y]) ++ (if false = true then l.drop (k + 1) else insS ltI x (l.drop (k + 1)))) := Lib.hid (by rw [HE.out, HI.out]; simp [h1])
          have t1 : (y == x) = false := by simp; omega
          have t2 : ¬ x < y := by omega
          clear HE HI HD h1
          go_wp2_with (at_builtin; (refine wpList_app rfl (.tmp 34) (.tmp 39) _ rfl w.heap.size slt_ints (n := acc.length) (xs := cellsI acc) (m := 1) (news := cellsI [y]) rfl (own_alloc ho5 _) rfl (rd_new' _ _ (cellsI [y]) (by simp) rfl) (oneI _) (by omega) (by simp; omega) ?_; intro v5 w5 hown5 hg5 hb5 hat5 hne5))
          have e1 : cellsI acc ++ cellsI [y] = cellsI (acc ++ [y]) := by simp [cellsI]
          rw [e1] at hown5
          have hbw5 := (hbw.alloc hz (.cells (cellsI [y]).toArray 3)).trans hb5
          clear e1
          go_roundw
          case rel => exact ⟨k + 1, false, acc ++ [y], by omega, by simp; omega, by go_num, rfl, by rw [List.length_append]; exact hown5, HE2, hbw5⟩
          case measure => simp [intOf]; omega
        · subst h1
          have HE2 : Hid (R = (acc ++ [y]) ++ (if true = true then l.drop (k + 1) else insS ltI y (l.drop (k + 1)))) := Lib.hid (by rw [HE.out, HI.out]; simp)
          clear HE HI HD
          go_wp2_with (at_builtin; (refine wpList_app rfl (.tmp 34) (.tmp 39) _ rfl w.heap.size slt_ints (n := acc.length) (xs := cellsI acc) (m := 1) (news := cellsI [y]) rfl (own_alloc ho5 _) rfl (rd_new' _ _ (cellsI [y]) (by simp) rfl) (oneI _) (by omega) (by simp; omega) ?_; intro v5 w5 hown5 hg5 hb5 hat5 hne5))
          have e1 : cellsI acc ++ cellsI [y] = cellsI (acc ++ [y]) := by simp [cellsI]
          rw [e1] at hown5
          have hbw5 := (hbw.alloc hz (.cells (cellsI [y]).toArray 3)).trans hb5
          clear e1
          go_roundw
          case rel => exact ⟨k + 1, true, acc ++ [y], by omega, by simp; omega, by go_num, rfl, by rw [List.length_append]; exact hown5, HE2, hbw5⟩
          case measure => simp [intOf]; omega
        · have HE2 : Hid (R = (acc ++ [x] ++ [y]) ++ (if true = true then l.drop (k + 1) else insS ltI x (l.drop (k + 1)))) := Lib.hid (by
            rw [HE.out, HI.out, if_neg (by decide), if_neg (by omega), if_neg (by omega)]; simp)
          have t1 : (y == x) = false := by simp; omega
          clear HE HI HD
          go_wp2_with (first
            | (at_builtin; (refine wpList_app rfl (.tmp 30) (.tmp 32) _ rfl w.heap.size slt_ints (n := acc.length) (xs := cellsI acc) (m := 1) (news := cellsI [x]) rfl (own_alloc ho5 _) rfl (rd_new' _ _ (cellsI [x]) (by simp) rfl) (oneI _) (by omega) (by simp; omega) ?_; intro v5 w5 hown5 hg5 hb5 hat5 hne5; have hbw5 := (hbw.alloc hz (.cells (cellsI [x]).toArray 3)).trans hb5; have c6 := unhide KEEP w5 (((Below.refl _ wr).alloc hz _).trans hb5); have e1 : cellsI acc ++ cellsI [x] = cellsI (acc ++ [x]) := (by simp [cellsI]); rw [e1] at hown5; clear e1; have hz6 := hbw5.size))
            | (at_builtin; (refine wpList_app rfl (.tmp 34) (.tmp 39) _ rfl w.heap.size slt_ints (n := acc.length + 1) (xs := cellsI (acc ++ [x])) (m := 1) (news := cellsI [y]) rfl (own_alloc hown5 _) rfl (rd_new' _ _ (cellsI [y]) (by simp) rfl) (oneI _) (by omega) (by simp; omega) ?_; intro v7 w7 hown7 hg7 hb7 hat7 hne7)))
          have e1 : cellsI (acc ++ [x]) ++ cellsI [y] = cellsI (acc ++ [x] ++ [y]) := by simp [cellsI]
          rw [e1] at hown7
          have hbw7 := (hbw5.alloc hz6 (.cells (cellsI [y]).toArray 3)).trans hb7
          clear e1
          go_roundw
          case rel => exact ⟨k + 1, true, acc ++ [x] ++ [y], by omega, by simp; omega, by go_num, rfl, by rw [List.length_append, List.length_append]; exact hown7, HE2, hbw7⟩
          case measure => simp [intOf]; omega
      · simp at hal
        have HE2 : Hid (R = (acc ++ [y]) ++ (if true = true then l.drop (k + 1) else insS ltI x (l.drop (k + 1)))) := Lib.hid (by rw [HE.out, HD.out]; simp)
        clear HE HI HD
        by_cases h1 : y = x
        · subst h1
          go_wp2_with (at_builtin; (refine wpList_app rfl (.tmp 34) (.tmp 39) _ rfl w.heap.size slt_ints (n := acc.length) (xs := cellsI acc) (m := 1) (news := cellsI [y]) rfl (own_alloc ho5 _) rfl (rd_new' _ _ (cellsI [y]) (by simp) rfl) (oneI _) (by omega) (by simp; omega) ?_; intro v5 w5 hown5 hg5 hb5 hat5 hne5))
          have e1 : cellsI acc ++ cellsI [y] = cellsI (acc ++ [y]) := by simp [cellsI]
          rw [e1] at hown5
          have hbw5 := (hbw.alloc hz (.cells (cellsI [y]).toArray 3)).trans hb5
          clear e1
          go_roundw
          case rel => exact ⟨k + 1, true, acc ++ [y], by omega, by simp; omega, by go_num, rfl, by rw [List.length_append]; exact hown5, HE2, hbw5⟩
          case measure => simp [intOf]; omega
        · have t1 : (y == x) = false := by simp; exact h1
          clear h1
          go_wp2_with (at_builtin; (refine wpList_app rfl (.tmp 34) (.tmp 39) _ rfl w.heap.size slt_ints (n := acc.length) (xs := cellsI acc) (m := 1) (news := cellsI [y]) rfl (own_alloc ho5 _) rfl (rd_new' _ _ (cellsI [y]) (by simp) rfl) (oneI _) (by omega) (by simp; omega) ?_; intro v5 w5 hown5 hg5 hb5 hat5 hne5))
          have e1 : cellsI acc ++ cellsI [y] = cellsI (acc ++ [y]) := by simp [cellsI]
          rw [e1] at hown5
          have hbw5 := (hbw.alloc hz (.cells (cellsI [y]).toArray 3)).trans hb5
          clear e1
          go_roundw
          case rel => exact ⟨k + 1, true, acc ++ [y], by omega, by simp; omega, by go_num, rfl, by rw [List.length_append]; exact hown5, HE2, hbw5⟩
          case measure => simp [intOf]; omega
    · have HN : Hid (l.drop k = []) := Lib.hid (drop_end (by rw [HL.out]; omega))
      cases dn
      · simp at hal
        have HE2 : Hid (R = acc ++ [x]) := Lib.hid (by rw [HE.out, HN.out]; rfl)
        clear HE HN
        go_wp2_with (at_builtin; (refine wpList_app rfl (.tmp 43) (.tmp 45) _ rfl w.heap.size slt_ints (n := acc.length) (xs := cellsI acc) (m := 1) (news := cellsI [x]) rfl (own_alloc ho5 _) rfl (rd_new' _ _ (cellsI [x]) (by simp) rfl) (oneI _) (by omega) (by simp; omega) ?_; intro v5 w5 hown5 hg5 hb5 hat5 hne5))
        have e1 : cellsI acc ++ cellsI [x] = cellsI (acc ++ [x]) := by simp [cellsI]
        rw [e1] at hown5
        have hbw5 := (hbw.alloc hz (.cells (cellsI [x]).toArray 3)).trans hb5
        go_ret
        exact ⟨_, rfl, by rw [HE2.out, List.length_append]; exact hown5, hbw5⟩
      · have HE2 : Hid (R = acc) := Lib.hid (by rw [HE.out, HN.out]; simp)
        clear HE HN
        go_wp2
        go_ret
        exact ⟨_, rfl, by rw [HE2.out]; exact ho5, hbw⟩
end Go.Proofs.YtbccnafdfeempaaGreatDoor


namespace Go.Proofs.YtbccnafdfeempaaGreatDoor
open Go.RowKit

def stopE (deals out : List Int) (d : Int) (e : Int × Int) : Bool := decide (e.2 = d) && (decide (e.1 ∈ deals) && !decide (e.1 ∈ out))
def rokB (E : List (Int × Int)) (deals out : List Int) (d : Int) : Bool := !decide (d ∈ out) && !E.any (stopE deals out d)
def rbest (ok : Int → Bool) : Int → List Int → Int
  | b, [] => b
  | b, d :: t => rbest ok (if ok d = true ∧ (b = 0 ∨ d < b) then d else b) t
def rsortGo (E : List (Int × Int)) (deals : List Int) : Nat → List Int → Option (List Int)
  | 0, out => some out
  | f + 1, out => if rbest (rokB E deals out) 0 deals = 0 then none else rsortGo E deals f (out ++ [rbest (rokB E deals out) 0 deals])
def rsortF (E : List (Int × Int)) (deals : List Int) : Option (List Int) := rsortGo E deals deals.length []
def RSortPost (E : List (Int × Int)) (deals : List Int) (w : World) (e : Ending) (w' : World) : Prop :=
  ∃ v k r L, e = .returned (.tuple #[v, .bool r]) ∧ w'.ownsRow w.heap.size 3 1 v k (cellsI L) ∧ ((rsortF E deals = some L ∧ r = true) ∨ (rsortF E deals = none ∧ r = false ∧ L = [])) ∧ Below w.heap.size w w'
theorem rbest_step (ok : Int → Bool) {b d : Int} {l t : List Int} (h : l = d :: t) : rbest ok b l = rbest ok (if ok d = true ∧ (b = 0 ∨ d < b) then d else b) t := by rw [h, rbest]

end Go.Proofs.YtbccnafdfeempaaGreatDoor


namespace Go.Proofs.YtbccnafdfeempaaGreatDoor
open Go.RowKit

def matL (E : List (Int × Int)) : List Bool := (List.range 49).map fun i => decide ((((i / 7 : Nat) : Int), ((i % 7 : Nat) : Int)) ∈ E)
theorem mat_len (E : List (Int × Int)) : (matL E).length = 49 := by simp [matL]
theorem mat_at (E : List (Int × Int)) {a b : Nat} (_ha : a ≤ 6) (hb : b ≤ 6) : (matL E)[a * 7 + b]? = some (decide (((a : Int), (b : Int)) ∈ E)) := by
  unfold matL
  rw [List.getElem?_map, List.getElem?_range (by omega), Option.map_some, show (a * 7 + b) / 7 = a by omega, show (a * 7 + b) % 7 = b by omega]
theorem mat_nil : matL [] = List.replicate 49 false := by decide
theorem mat_set (E : List (Int × Int)) {a b : Nat} (_ha : a ≤ 6) (hb : b ≤ 6) : (matL E).set (a * 7 + b) true = matL (E ++ [((a : Int), (b : Int))]) := by
  apply List.ext_getElem?
  intro i
  by_cases hi : i < 49
  · rw [List.getElem?_set]
    unfold matL
    rw [List.getElem?_map, List.getElem?_map, List.getElem?_range hi, Option.map_some, Option.map_some]
    by_cases he : a * 7 + b = i
    · subst he
      rw [if_pos rfl, if_pos (by simp; omega), show (a * 7 + b) / 7 = a by omega, show (a * 7 + b) % 7 = b by omega]
      simp
    · rw [if_neg he]
      congr 1
      rw [decide_eq_decide, List.mem_append, List.mem_singleton, Prod.mk.injEq]
      constructor
      · exact .inl
      · rintro (h | ⟨h1, h2⟩)
        · exact h
        · omega
  · rw [List.getElem?_eq_none (by simp [matL]; omega), List.getElem?_eq_none (by simp [matL]; omega)]
/-- Edges of which each end is a deal's number. -/
def okE (E : List (Int × Int)) : Prop := ∀ e ∈ E, txB e.1 = true ∧ txB e.2 = true
theorem okE_nat {E : List (Int × Int)} (h : okE E) {k : Nat} {x y : Int} (he : E[k]? = some (x, y)) : ∃ a b : Nat, x = a ∧ y = b ∧ 1 ≤ a ∧ a ≤ 6 ∧ 1 ≤ b ∧ b ≤ 6 := by
  obtain ⟨h1, h2⟩ := h _ (List.mem_of_getElem? he)
  have h1' : 1 ≤ x ∧ x ≤ 6 := by simpa [txB] using h1
  have h2' : 1 ≤ y ∧ y ≤ 6 := by simpa [txB] using h2
  exact ⟨x.toNat, y.toNat, by omega, by omega, by omega, by omega, by omega, by omega⟩
theorem take_snoc {α : Type} {l : List α} {k : Nat} {x : α} (h : l[k]? = some x) : l.take (k + 1) = l.take k ++ [x] := by rw [List.take_add_one, h]; rfl

/-! ### Ways. -/
def rwStep (m i k : Nat) (T : List Bool) : List Bool := if (T.getD (i * 7 + m) false && T.getD (m * 7 + k) false) = true then T.set (i * 7 + k) true else T
def rwK (m i : Nat) : Nat → Nat → List Bool → List Bool
  | 0, _, T => T
  | r + 1, k, T => rwK m i r (k + 1) (rwStep m i k T)
def rwI (m : Nat) : Nat → Nat → List Bool → List Bool
  | 0, _, T => T
  | r + 1, i, T => rwI m r (i + 1) (rwK m i 6 1 T)
def rwM : Nat → Nat → List Bool → List Bool
  | 0, _, T => T
  | r + 1, m, T => rwM r (m + 1) (rwI m 6 1 T)
def waysF (E : List (Int × Int)) : List Bool := rwM 6 1 (matL E)
theorem rwStep_eq (m i k : Nat) (T : List Bool) : rwStep m i k T = if (T.getD (i * 7 + m) false && T.getD (m * 7 + k) false) = true then T.set (i * 7 + k) true else T := rfl
theorem rwK_s (m i r k : Nat) (T : List Bool) : rwK m i (r + 1) k T = rwK m i r (k + 1) (rwStep m i k T) := rfl
theorem rwI_s (m r i : Nat) (T : List Bool) : rwI m (r + 1) i T = rwI m r (i + 1) (rwK m i 6 1 T) := rfl
theorem rwM_s (r m : Nat) (T : List Bool) : rwM (r + 1) m T = rwM r (m + 1) (rwI m 6 1 T) := rfl
theorem rwK_0 (m i k : Nat) (T : List Bool) : rwK m i 0 k T = T := rfl
theorem rwI_0 (m i : Nat) (T : List Bool) : rwI m 0 i T = T := rfl
theorem rwM_0 (m : Nat) (T : List Bool) : rwM 0 m T = T := rfl
theorem waysF_eq (E : List (Int × Int)) : waysF E = rwM 6 1 (matL E) := rfl
theorem rwStep_len (m i k : Nat) (T : List Bool) : (rwStep m i k T).length = T.length := by unfold rwStep; split <;> simp

attribute [local irreducible] rwStep rwK rwI rwM waysF
set_option maxRecDepth 100000 in
set_option maxHeartbeats 4000000 in
theorem rways_any (B : Option Addr) (m c : Nat) (E : List (Int × Int)) (w : World) (hE : Rd w w.heap.size 2 B m (dcells E)) (hmE : m ≤ 9000000000000) (hok : okE E) :
    Calls Tryz.prog 34 #[.slice B m c] w fun e w' => e = .returned (.agg ((waysF E).map .bool).toArray) ∧ Below w.heap.size w w' := by
  have HLE := Lib.hid hE.dlen
  have HOK := Lib.hid hok
  have hR0 := (Blk.new w 89 ((List.replicate 49 false).map .bool)).alloc (.cells ((List.replicate 49 false).map Value.bool).toArray 89)
  have hT0 := Blk.new (w.alloc (.cells ((List.replicate 49 false).map Value.bool).toArray 89)) 89 ((List.replicate 49 false).map .bool)
  have hbw0 := ((Below.refl w.heap.size w).alloc (Nat.le_refl _) (.cells ((List.replicate 49 false).map Value.bool).toArray 89)).alloc (by simp) (.cells ((List.replicate 49 false).map Value.bool).toArray 89)
  rw [show (w.alloc (.cells ((List.replicate 49 false).map Value.bool).toArray 89)).heap.size = w.heap.size + 1 by simp] at hT0
  have hEw := hide (fun wr (hb : Below w.heap.size w wr) => hE.below hb)
  have HG : Hid (w.heap.size = w.heap.size) := Lib.hid rfl
  clear hok
  go_enter Tryz.func34, Tryz.ntmps34
  go_wp2
  generalize hgg : w.heap.size = g at *
  go_loopw [4] (fun s4 wr => ∃ i : Nat, i ≤ m ∧ s4 = .int .i64 i ∧ Blk wr (g + 1) 89 ((matL (E.take i)).map .bool) ∧ Blk wr g 89 ((List.replicate 49 false).map .bool) ∧ Below g w wr) (fun s4 _ => m - (intOf s4).toNat)
  case atStart => exact ⟨0, Nat.zero_le _, rfl, hT0, hR0, hbw0⟩
  case round =>
    clear hT0 hR0 hbw0
    obtain ⟨i, hi, rfl, hT, hR, hbw⟩ := hrel
    by_cases hlt : i < m
    · obtain ⟨be, oe, e, he, hbe, ho, q0, q1⟩ := (unhide hEw wr hbw).pr (k := i) hlt
      cases he
      obtain ⟨x, y⟩ := e
      simp only at q0 q1
      obtain ⟨a, b, rfl, rfl, ha1, ha6, hb1, hb6⟩ := okE_nat HOK.out ho
      have HM := Lib.hid (mat_set (E.take i) ha6 hb6)
      have HS := Lib.hid (take_snoc ho)
      have hTd : Blk wr.drew (g + 1) 89 ((matL (E.take i)).map .bool) := hT
      have hRd : Blk wr.drew g 89 ((List.replicate 49 false).map .bool) := hR
      have hlT := hTd.lt
      have fT := hTd.frozen (a * 7 + b)
      have sT := hTd.cellS (i := a * 7 + b) (v := .bool (decide (((a : Int), (b : Int)) ∈ E.take i))) (by rw [List.getElem?_map, mat_at _ ha6 hb6]; rfl)
      have ja0 : (0 : Int) ≤ (a : Int) := by omega
      have ja7 : (a : Int) < 7 := by omega
      have jb0 : (0 : Int) ≤ (b : Int) := by omega
      have jb7 : (b : Int) < 7 := by omega
      go_wp2
      go_still_tail 12, (by kernel_rfl)
      change wpList _ _ _ _ _ wr.drew
      have hT2 := hTd.put (a * 7 + b) (.bool true)
      rw [← List.map_set, HM.out, ← HS.out] at hT2
      have hR2 := hRd.far (p := ⟨g + 1, a * 7 + b, none⟩) (by simp) (.bool true)
      have hbw2 := (show Below g w wr.drew from hbw.drew).setCell (p := ⟨g + 1, a * 7 + b, none⟩) (by simp) (.bool true)
      go_wp2
      go_roundw
      case rel => exact ⟨i + 1, by omega, by go_num, hT2, hR2, hbw2⟩
      case measure => simp [intOf]; omega
    · rw [List.take_of_length_le (by rw [HLE.out]; omega)] at hT
      go_wp2
      go_loopw [5] (fun s5 wr => ∃ (q r : Nat) (T : List Bool), q + r = 7 ∧ 1 ≤ q ∧ s5 = .int .i64 q ∧ T.length = 49 ∧ Hid (waysF E = rwM r q T) ∧ Blk wr (g + 1) 89 (T.map .bool) ∧ Blk wr g 89 ((List.replicate 49 false).map .bool) ∧ Below g w wr) (fun s5 _ => 7 - (intOf s5).toNat)
      case atStart => exact ⟨1, 6, matL E, rfl, Nat.le_refl _, rfl, mat_len E, Lib.hid (waysF_eq E), hT, hR, hbw⟩
      case round =>
        clear hT hR hbw
        obtain ⟨q, r, T, hqr, hq1, rfl, hTl, HW, hT, hR, hbw⟩ := hrel
        by_cases hq : q ≤ 6
        · obtain ⟨r', rfl⟩ : ∃ r', r = r' + 1 := ⟨r - 1, by omega⟩
          have HW2 : Hid (waysF E = rwM r' (q + 1) (rwI q 6 1 T)) := Lib.hid (HW.out.trans (rwM_s _ _ _))
          have hrm : Hid (q + (r' + 1) = 7) := Lib.hid hqr
          clear HW hqr
          obtain ⟨wo, rfl⟩ : ∃ wo : World, wo = wr := ⟨_, rfl⟩
          go_wp2
          go_loopw [6] (fun s6 wr => ∃ (i r : Nat) (T2 : List Bool), i + r = 7 ∧ 1 ≤ i ∧ s6 = .int .i64 i ∧ T2.length = 49 ∧ Hid (rwI q 6 1 T = rwI q r i T2) ∧ Blk wr (g + 1) 89 (T2.map .bool) ∧ Blk wr g 89 ((List.replicate 49 false).map .bool) ∧ Below g w wr) (fun s6 _ => 7 - (intOf s6).toNat)
          case atStart => exact ⟨1, 6, T, rfl, Nat.le_refl _, rfl, hTl, Lib.hid rfl, hT, hR, hbw⟩
          case round =>
            clear hT hR hbw hTl
            obtain ⟨i, r, T2, hir, hi1, rfl, hTl, HI, hT, hR, hbw⟩ := hrel
            by_cases hi6 : i ≤ 6
            · obtain ⟨r2, rfl⟩ : ∃ r2, r = r2 + 1 := ⟨r - 1, by omega⟩
              have HI2 : Hid (rwI q 6 1 T = rwI q r2 (i + 1) (rwK q i 6 1 T2)) := Lib.hid (HI.out.trans (rwI_s _ _ _ _))
              have hrn : Hid (i + (r2 + 1) = 7) := Lib.hid hir
              clear HI hir
              obtain ⟨wp, rfl⟩ : ∃ wp : World, wp = wr := ⟨_, rfl⟩
              go_wp2
              go_loopw [7] (fun s7 wr => ∃ (k r : Nat) (T3 : List Bool), k + r = 7 ∧ 1 ≤ k ∧ s7 = .int .i64 k ∧ T3.length = 49 ∧ Hid (rwK q i 6 1 T2 = rwK q i r k T3) ∧ Blk wr (g + 1) 89 (T3.map .bool) ∧ Blk wr g 89 ((List.replicate 49 false).map .bool) ∧ Below g w wr) (fun s7 _ => 7 - (intOf s7).toNat)
              case atStart => exact ⟨1, 6, T2, rfl, Nat.le_refl _, rfl, hTl, Lib.hid rfl, hT, hR, hbw⟩
              case round =>
                clear hT hR hbw hTl
                obtain ⟨k, r, T3, hkr, hk1, rfl, hTl, HK, hT, hR, hbw⟩ := hrel
                by_cases hk6 : k ≤ 6
                · obtain ⟨r3, rfl⟩ : ∃ r3, r = r3 + 1 := ⟨r - 1, by omega⟩
                  have HK2 : Hid (rwK q i 6 1 T2 = rwK q i r3 (k + 1) (rwStep q i k T3)) := Lib.hid (HK.out.trans (rwK_s _ _ _ _ _))
                  have hlen := Lib.hid (rwStep_len q i k T3)
                  have hro : Hid (k + (r3 + 1) = 7) := Lib.hid hkr
                  have hlT := hT.lt
                  have j1 : (0 : Int) ≤ (q : Int) := by omega
                  have j2 : (q : Int) < 7 := by omega
                  have j3 : (0 : Int) ≤ (i : Int) := by omega
                  have j4 : (i : Int) < 7 := by omega
                  have j5 : (0 : Int) ≤ (k : Int) := by omega
                  have j6 : (k : Int) < 7 := by omega
                  have sA := hT.cellS (i := i * 7 + q) (v := .bool (T3.getD (i * 7 + q) false)) (by rw [List.getElem?_map, List.getD_eq_getElem?_getD, List.getElem?_eq_getElem (by omega)]; rfl)
                  have sB := hT.cellS (i := q * 7 + k) (v := .bool (T3.getD (q * 7 + k) false)) (by rw [List.getElem?_map, List.getD_eq_getElem?_getD, List.getElem?_eq_getElem (by omega)]; rfl)
                  have sC := hT.cellS (i := i * 7 + k) (v := .bool (T3.getD (i * 7 + k) false)) (by rw [List.getElem?_map, List.getD_eq_getElem?_getD, List.getElem?_eq_getElem (by omega)]; rfl)
                  have fC := hT.frozen (i * 7 + k)
                  have HS : Hid (rwStep q i k T3 = if (T3.getD (i * 7 + q) false && T3.getD (q * 7 + k) false) = true then T3.set (i * 7 + k) true else T3) := Lib.hid (rwStep_eq _ _ _ _)
                  generalize T3.getD (i * 7 + q) false = pA at *
                  generalize T3.getD (q * 7 + k) false = pB at *
                  generalize T3.getD (i * 7 + k) false = pC at *
                  clear HK hkr
                  cases pA
                  · have HK3 : Hid (rwK q i 6 1 T2 = rwK q i r3 (k + 1) T3) := Lib.hid (by rw [HK2.out, HS.out]; rfl)
                    clear HS HK2
                    go_wp2
                    go_roundw
                    case rel => exact ⟨k + 1, r3, T3, by have := hro.out; omega, by omega, by go_num, hTl, HK3, hT, hR, hbw⟩
                    case measure => simp [intOf]; omega
                  · cases pB
                    · have HK3 : Hid (rwK q i 6 1 T2 = rwK q i r3 (k + 1) T3) := Lib.hid (by rw [HK2.out, HS.out]; rfl)
                      clear HS HK2
                      go_wp2
                      go_roundw
                      case rel => exact ⟨k + 1, r3, T3, by have := hro.out; omega, by omega, by go_num, hTl, HK3, hT, hR, hbw⟩
                      case measure => simp [intOf]; omega
                    · have HK3 : Hid (rwK q i 6 1 T2 = rwK q i r3 (k + 1) (T3.set (i * 7 + k) true)) := Lib.hid (by rw [HK2.out, HS.out]; rfl)
                      have hT2 := hT.put (i * 7 + k) (.bool true)
                      rw [← List.map_set] at hT2
                      have hR2 := hR.far (p := ⟨g + 1, i * 7 + k, none⟩) (by simp) (.bool true)
                      have hbw2 := hbw.setCell (p := ⟨g + 1, i * 7 + k, none⟩) (by simp) (.bool true)
                      clear HS HK2
                      go_wp2
                      go_roundw
                      case rel => exact ⟨k + 1, r3, T3.set (i * 7 + k) true, by have := hro.out; omega, by omega, by go_num, by rw [List.length_set]; exact hTl, HK3, hT2, hR2, hbw2⟩
                      case measure => simp [intOf]; omega
                · obtain rfl : r = 0 := by omega
                  have HI3 : Hid (rwI q 6 1 T = rwI q r2 (i + 1) T3) := Lib.hid (by rw [HI2.out, HK.out, rwK_0])
                  clear HI2 HK
                  go_wp2
                  go_roundw
                  case rel => exact ⟨i + 1, r2, T3, by have := hrn.out; omega, by omega, by go_num, hTl, HI3, hT, hR, hbw⟩
                  case measure => simp [intOf]; omega
            · obtain rfl : r = 0 := by omega
              have HW3 : Hid (waysF E = rwM r' (q + 1) T2) := Lib.hid (by rw [HW2.out, HI.out, rwI_0])
              clear HI HW2
              go_wp2
              go_roundw
              case rel => exact ⟨q + 1, r', T2, by have := hrm.out; omega, by omega, by go_num, hTl, HW3, hT, hR, hbw⟩
              case measure => simp [intOf]; omega
        · obtain rfl : r = 0 := by omega
          have HF : Hid (waysF E = T) := Lib.hid (HW.out.trans (rwM_0 _ _))
          have hts : ((T.map Value.bool).toArray).size = 49 := by simp [hTl]
          have hsz : (Tryz.prog.info? 89).map (·.size) = some ((T.map Value.bool).toArray).size := by rw [hts]; kernel_rfl
          have hun : Tryz.prog.underlying 89 = some (.array 7 41) := by kernel_rfl
          have hold : ((List.replicate 49 false).map Value.bool).toArray.size = ((T.map Value.bool).toArray).size := by rw [hts]; rfl
          have hone : ((T.map Value.bool).toArray).all (·.oneCell') = true := by
            rw [Array.all_eq_true_iff_forall_mem]; intro v hv; simp at hv; rcases hv with ⟨_, rfl⟩ | ⟨_, rfl⟩ <;> rfl
          have hR9 : Blk (wr.setRow g (T.map Value.bool).toArray) g 89 (T.map .bool) := setRow_heap wr g _ _ 89 _ hR
          have hbw9 : Below g w (wr.setRow g (T.map Value.bool).toArray) := below_setRow hbw (Nat.le_refl g) _
          go_wp2_with (first
            | (refine wpList_load_row rfl _ _ rfl (g + 1) rfl 89 (T.map Value.bool).toArray (0, 0) (.array 7 41) hT hun rfl hsz ?_)
            | (refine wpList_store_row rfl _ _ _ rfl g (T.map Value.bool).toArray rfl rfl 89 _ hR hsz hold hone ?_))
          refine bodyPost_ret (results_cell_row rfl _ _ g 89 (T.map Value.bool).toArray (0, 0) (.array 7 41) rfl hR9 hun rfl hsz) rfl ?_
          exact ⟨by rw [HF.out], by rw [hgg]; exact hbw9⟩
end Go.Proofs.YtbccnafdfeempaaGreatDoor
