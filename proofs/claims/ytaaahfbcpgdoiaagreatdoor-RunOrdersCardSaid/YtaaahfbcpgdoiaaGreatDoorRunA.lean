
/-
  CONTRACTS of run.row, numbers, flags.
-/
import Derived.Test.YtaaahfbcpgdoiaaGreatDoorQ1
import Derived.Test.YtaaahfbcpgdoiaaGreatDoorQ3
import Derived.Lib.ItoaNum

namespace Go.Proofs.YtaaahfbcpgdoiaaGreatDoor
open Go.RowKit Go.Shelf

set_option maxHeartbeats 1000000 in
theorem row_any (A : Option Addr) (n c : Nat) (l : List (List UInt8)) (w : World) (hr : Rd w w.heap.size 1 A n (cellsS l)) (hc : n ≤ c) (hlen : (([32] : List UInt8).intercalate l).length ≤ 1000000) (hn : n ≤ 1000000) :
    Calls Tryz.prog 88 #[.slice A n c] w fun e w' => e = .returned (.string ⟨(rowW l).toArray⟩) ∧ Below w.heap.size w w' := by
  have hl := hr.slen
  by_cases h0 : n = 0
  · subst h0
    have hl0 : l = [] := List.length_eq_zero_iff.1 hl
    subst hl0
    go_enter Tryz.func88, Tryz.ntmps88
    go_wp2
    go_ret
    exact ⟨rfl, Below.refl _ _⟩
  · have J := hide (join_any A n c l [32] w hr hc hlen hn)
    have e : rowW l = ([32] : List UInt8).intercalate l := by
      unfold rowW
      rw [if_neg (fun e => h0 (by rw [← hl, e]; rfl))]
    rw [e]
    have hn0 : ((n : Int) == 0) = false := by simp; omega
    have hnn : (n == 0) = false := by simp; omega
    generalize ([32] : List UInt8).intercalate l = R at *
    clear hr hlen e hl
    go_enter Tryz.func88, Tryz.ntmps88
    go_wp2_with fail
    refine (unhide J).mono ?_
    rintro e w1 ⟨rfl, hb1⟩
    go_wp2
    go_ret
    exact ⟨rfl, hb1⟩
theorem inter_len (sep : List UInt8) : ∀ (l : List (List UInt8)) (M : Nat), (∀ x ∈ l, x.length ≤ M) → (sep.intercalate l).length ≤ l.length * (M + sep.length)
  | [], M, _ => by simp [List.intercalate]
  | [x], M, h => by
    have := h x List.mem_cons_self
    simp [List.intercalate, List.intersperse]; omega
  | x :: y :: r, M, h => by
    have h1 := h x List.mem_cons_self
    have h2 := inter_len sep (y :: r) M fun z hz => h z (List.mem_cons_of_mem _ hz)
    have e : sep.intercalate (x :: y :: r) = x ++ (sep ++ sep.intercalate (y :: r)) := by simp [List.intercalate, List.intersperse]
    rw [e, List.length_append, List.length_append]
    simp only [List.length_cons] at h2 ⊢
    have e2 : (r.length + 1 + 1) * (M + sep.length) = (r.length + 1) * (M + sep.length) + (M + sep.length) := by rw [Nat.add_mul, Nat.one_mul]
    omega
theorem cellsS_append (a b : List (List UInt8)) : cellsS (a ++ b) = cellsS a ++ cellsS b := by simp [cellsS]

/-- Numbers as words. -/
def numsW (l : List Int) : List UInt8 := rowW (l.map Go.Lib.itoa)
def ItoaC (w : World) (x : Int) : Prop := ∀ w1, Below w.heap.size w w1 → Calls Tryz.prog 87 #[.int .i64 x] w1 fun e w' => e = .returned (.string ⟨(Go.Lib.itoa x).toArray⟩) ∧ Below w1.heap.size w1 w'
set_option maxHeartbeats 2000000 in
theorem numbers_any (A : Option Addr) (n c : Nat) (l : List Int) (w : World) (hr : Rd w w.heap.size 1 A n (cellsI l)) (hn : n ≤ 40) (hI : ∀ x ∈ l, ItoaC w x ∧ (Go.Lib.itoa x).length ≤ 20) :
    Calls Tryz.prog 47 #[.slice A n c] w fun e w' => e = .returned (.string ⟨(numsW l).toArray⟩) ∧ Below w.heap.size w w' := by
  have HL := Lib.hid hr.ilen
  have HI := hide (fun x hx => (hI x hx).1)
  have HN := Lib.hid (fun x hx => (hI x hx).2)
  clear hI
  go_enter Tryz.func47, Tryz.ntmps47
  go_wp2
  go_loopw [3, 8] (fun s3 s8 wr => ∃ k : Nat, k ≤ n ∧ s8 = .int .i64 k ∧ wr.ownsRow w.heap.size 9 1 s3 k (cellsS ((l.take k).map Go.Lib.itoa)) ∧ Below w.heap.size w wr) (fun _ s8 _ => n - (intOf s8).toNat)
  case atStart => exact ⟨0, Nat.zero_le _, rfl, World.ownsRow_nil _ _ _ _, Below.refl _ _⟩
  case round =>
    obtain ⟨k, hk, rfl, ho3, hbw⟩ := hrel
    obtain ⟨A3, c3, rfl⟩ := own_slice ho3
    by_cases hlt : k < n
    · obtain ⟨b, off, x, he, hb, hx, z0⟩ := ((hr.below hbw).more hbw.size).int (k := k) hlt
      cases he
      have CI := hide (unhide HI x (List.mem_of_getElem? hx) wr hbw)
      have HS : Hid ((l.take (k + 1)).map Go.Lib.itoa = (l.take k).map Go.Lib.itoa ++ [Go.Lib.itoa x]) := Lib.hid (by rw [List.take_add_one, hx, List.map_append]; rfl)
      generalize (l.take k).map Go.Lib.itoa = L at *
      generalize Go.Lib.itoa x = X at *
      have h9 : ∀ u ∈ cellsS [X], u.oneCell' = true := oneS _
      clear hx
      go_wp2_with fail
      refine (unhide CI).mono ?_
      rintro e w2 ⟨rfl, hb2⟩
      have ho2 := own_below ho3 hb2 (Nat.le_refl _)
      have hbw2 := hbw.trans (hb2.mono hbw.size)
      have hz2 := hbw2.size
      clear CI ho3 hb2
      go_wp2_with (at_builtin; (refine wpList_app rfl (.tmp 12) (.tmp 15) _ rfl w.heap.size slt_strs (n := k) (xs := cellsS L) (m := 1) (news := cellsS [X]) rfl (own_alloc ho2 _) rfl (rd_new' _ _ (cellsS [X]) (by simp) rfl) h9 (by omega) (by simp; omega) ?_; intro v6 w6 hown6 hg6 hb6 hat6 hne6))
      rw [← cellsS_append, ← HS.out] at hown6
      have hbw6 := (hbw2.alloc hz2 (.cells (cellsS [X]).toArray 9)).trans hb6
      go_roundw
      case rel => exact ⟨k + 1, by omega, by go_num, hown6, hbw6⟩
      case measure => simp [intOf]; omega
    · obtain rfl : k = n := by omega
      rw [List.take_of_length_le (by rw [HL.out]; omega)] at ho3
      have hbl := inter_len [32] (l.map Go.Lib.itoa) 20 (fun x hx => by
        obtain ⟨y, hy, rfl⟩ := List.mem_map.1 hx
        exact HN.out y hy)
      have C := hide (row_any A3 k c3 (l.map Go.Lib.itoa) wr (rd_own ho3) (own_capS ho3) (by
        rw [List.length_map, HL.out] at hbl
        simp only [List.length_singleton] at hbl
        omega) (by omega))
      have e : rowW (l.map Go.Lib.itoa) = numsW l := rfl
      rw [e] at C
      clear ho3 hbl e
      go_wp2_with fail
      refine (unhide C).mono ?_
      rintro e w2 ⟨rfl, hb2⟩
      go_wp2
      go_ret
      exact ⟨rfl, hbw.trans (hb2.mono hbw.size)⟩

/-! ### Flags. -/
def cellsFl (l : List (List UInt8 × Bool)) : List Value := l.flatMap fun f => [.string ⟨f.1.toArray⟩, .bool f.2]
theorem cellsFl_len (l : List (List UInt8 × Bool)) : (cellsFl l).length = l.length * 2 := by
  induction l with
  | nil => rfl
  | cons a l ih => simp [cellsFl] at ih ⊢; omega
theorem cellsFl_at : ∀ {l : List (List UInt8 × Bool)} {k : Nat} {f : List UInt8 × Bool}, l[k]? = some f → (cellsFl l)[k * 2]? = some (.string ⟨f.1.toArray⟩) ∧ (cellsFl l)[k * 2 + 1]? = some (.bool f.2)
  | [], k, f, h => by simp at h
  | a :: l, 0, f, h => by
    obtain rfl : a = f := by simpa using h
    exact ⟨rfl, rfl⟩
  | a :: l, k + 1, f, h => by
    have := cellsFl_at (l := l) (k := k) (f := f) (by simpa using h)
    rw [show (k + 1) * 2 = k * 2 + 2 by omega]
    exact this
theorem Rd.flag {w : World} {B n : Nat} {A : Option Addr} {l : List (List UInt8 × Bool)} (h : Rd w B 2 A n (cellsFl l)) {k : Nat} (hk : k < n) :
    ∃ b off f, A = some ⟨b, off, none⟩ ∧ b < B ∧ l[k]? = some f ∧ w.cell? ⟨b, off + k * 2, none⟩ = some (.string ⟨f.1.toArray⟩) ∧ w.cell? ⟨b, off + k * 2 + 1, none⟩ = some (.bool f.2) := by
  obtain ⟨b, off, e, hb, hc⟩ := h.2 (by omega)
  have hl := h.1
  rw [cellsFl_len] at hl
  have ho : l[k]? = some (l[k]'(by omega)) := List.getElem?_eq_getElem (by omega)
  obtain ⟨h1, h2⟩ := cellsFl_at ho
  exact ⟨b, off, _, e, hb, ho, hc _ _ h1, by have := hc _ _ h2; rwa [← Nat.add_assoc] at this⟩
theorem flag_take {l : List (List UInt8 × Bool)} {k : Nat} {f : List UInt8 × Bool} (h : l[k]? = some f) : ((l.take (k + 1)).filter (·.2)).map (·.1) = ((l.take k).filter (·.2)).map (·.1) ++ (if f.2 = true then [f.1] else []) := by
  rw [List.take_add_one, h, List.filter_append, List.map_append]
  congr 1
  cases hf : f.2 <;> simp [hf]
set_option maxHeartbeats 2000000 in
theorem flags_any (A : Option Addr) (n c : Nat) (l : List (List UInt8 × Bool)) (w : World) (hr : Rd w w.heap.size 2 A n (cellsFl l)) (hn : n ≤ 40) (hI : ∀ f ∈ l, f.1.length ≤ 20) :
    Calls Tryz.prog 57 #[.slice A n c] w fun e w' => e = .returned (.string ⟨(flagsW l).toArray⟩) ∧ Below w.heap.size w w' := by
  have hl : l.length = n := by have := hr.1; rw [cellsFl_len] at this; omega
  have HL := Lib.hid hl
  have HN := Lib.hid hI
  clear hI hl
  go_enter Tryz.func57, Tryz.ntmps57
  go_wp2
  go_loopw [3, 8] (fun s3 s8 wr => ∃ k m : Nat, k ≤ n ∧ m ≤ k ∧ s8 = .int .i64 k ∧ wr.ownsRow w.heap.size 9 1 s3 m (cellsS (((l.take k).filter (·.2)).map (·.1))) ∧ Below w.heap.size w wr) (fun _ s8 _ => n - (intOf s8).toNat)
  case atStart => exact ⟨0, 0, Nat.zero_le _, Nat.le_refl _, rfl, World.ownsRow_nil _ _ _ _, Below.refl _ _⟩
  case round =>
    obtain ⟨k, m, hk, hmk, rfl, ho3, hbw⟩ := hrel
    obtain ⟨A3, c3, rfl⟩ := own_slice ho3
    by_cases hlt : k < n
    · obtain ⟨b, off, f, he, hb, hx, z0, z1⟩ := ((hr.below hbw).more hbw.size).flag (k := k) hlt
      cases he
      have HS := Lib.hid (flag_take hx)
      generalize ((l.take k).filter (·.2)).map (·.1) = L at *
      obtain ⟨X, q⟩ := f
      simp only at z0 z1
      have h9 : ∀ u ∈ cellsS [X], u.oneCell' = true := oneS _
      have hba := hbw.alloc hbw.size (.cells #[.string ⟨X.toArray⟩, .bool q] 112)
      have hoa := own_alloc ho3 (.cells #[.string ⟨X.toArray⟩, .bool q] 112)
      clear hx
      cases q
      · have HS2 : Hid (((l.take (k + 1)).filter (·.2)).map (·.1) = L) := Lib.hid (by rw [HS.out]; simp)
        rw [← HS2.out] at hoa
        clear ho3
        go_wp2
        go_roundw
        case rel => exact ⟨k + 1, m, by omega, by omega, by go_num, hoa, hba⟩
        case measure => simp [intOf]; omega
      · have HS2 : Hid (((l.take (k + 1)).filter (·.2)).map (·.1) = L ++ [X]) := Lib.hid (by rw [HS.out]; simp)
        have hza := hba.size
        clear ho3
        go_wp2_with (at_builtin; (refine wpList_app rfl (.tmp 14) (.tmp 17) _ rfl w.heap.size slt_strs (n := m) (xs := cellsS L) (m := 1) (news := cellsS [X]) rfl (own_alloc hoa _) rfl (rd_new' _ _ (cellsS [X]) (by simp) rfl) h9 (by omega) (by first | (simp; omega) | (simp at hza ⊢; omega)) ?_; intro v6 w6 hown6 hg6 hb6 hat6 hne6))
        rw [← cellsS_append, ← HS2.out] at hown6
        have hbw6 := (hba.alloc hza (.cells (cellsS [X]).toArray 9)).trans hb6
        go_roundw
        case rel => exact ⟨k + 1, m + 1, by omega, by omega, by go_num, hown6, hbw6⟩
        case measure => simp [intOf]; omega
    · obtain rfl : k = n := by omega
      rw [List.take_of_length_le (by rw [HL.out]; omega)] at ho3
      have hbl := inter_len [32] ((l.filter (·.2)).map (·.1)) 20 (fun x hx => by
        obtain ⟨y, hy, rfl⟩ := List.mem_map.1 hx
        exact HN.out y (List.mem_filter.1 hy).1)
      have hfl : ((l.filter (·.2)).map (·.1)).length ≤ 40 := by
        rw [List.length_map]
        have := List.length_filter_le (·.2) l
        have := HL.out
        omega
      have C := hide (row_any A3 m c3 ((l.filter (·.2)).map (·.1)) wr (rd_own ho3) (own_capS ho3) (by
        simp only [List.length_singleton] at hbl
        have := Nat.mul_le_mul_right 21 hfl
        omega) (by omega))
      have e : rowW ((l.filter (·.2)).map (·.1)) = flagsW l := rfl
      rw [e] at C
      clear ho3 hbl e hfl
      go_wp2_with fail
      refine (unhide C).mono ?_
      rintro e w2 ⟨rfl, hb2⟩
      go_wp2
      go_ret
      exact ⟨rfl, hbw.trans (hb2.mono hbw.size)⟩
end Go.Proofs.YtaaahfbcpgdoiaaGreatDoor
