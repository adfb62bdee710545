
/-
  CONTRACTS of strings.Join, history.Print.
-/
import Derived.Test.YtahbaddclacakaaDoorText
import Derived.Test.YtahbaddclacakaaDoorApp
import Derived.Test.YtahbaddclacakaaDoorPlay
import Derived.Test.YtahbaddclacakaaDoorLaysS

namespace Go.Proofs.YtahbaddclacakaaDoor
open Go.RowKit Go.Shelf

theorem bxJoin : Builder.Extra Tryd.prog Tryd.lJoin_ren where
  sizeBuilder := by kernel_rfl
  liesBuilder := by kernel_rfl
  t5 := Tryd.underlying5
  a5 := Tryd.isAgg5
  z5 := Tryd.sizeOf5
  v5 := Tryd.zeroValue5
  infoByte := by kernel_rfl
  cellsByte := by kernel_rfl
  sizeByte := by kernel_rfl
  neB5 := by decide
/-- The cells of a list of strings. -/
def cellsS (l : List (List UInt8)) : List Value := l.map fun x => .string ⟨x.toArray⟩
theorem cellsS_len (l : List (List UInt8)) : (cellsS l).length = l.length := by simp [cellsS]
theorem oneS (l : List (List UInt8)) : ∀ u ∈ cellsS l, u.oneCell' = true := by
  intro u hu
  obtain ⟨x, _, rfl⟩ := List.mem_map.1 hu
  rfl
theorem own_capS {w : World} {base : Nat} {e : TypeId} {size : Nat} {A : Option Addr} {n c : Nat} {xs : List Value} (h : w.ownsRow base e size (.slice A n c) n xs) : n ≤ c := by
  obtain ⟨_, ⟨he, h0⟩ | ⟨g, cap, cur, he, _, _, h1, _⟩⟩ := h
  · omega
  · injection he with e1 e2 e3; omega
/-- An outcome: who is done, what was seen, who wrote last. -/
theorem slt_strs : SlT Tryd.prog 68 9 1 16 := slt_of (z := .string ByteArray.empty) Tryd.underlying68 (by kernel_rfl) (by decide) (by decide) (by decide)
theorem Rd.slen {w : World} {B n : Nat} {A : Option Addr} {l : List (List UInt8)} (h : Rd w B 1 A n (cellsS l)) : l.length = n := by
  have hl := h.1
  rw [cellsS_len] at hl
  omega
/-- strings.Join, with what stands between as literal bytes. -/
theorem join_any (A : Option Addr) (n c : Nat) (l : List (List UInt8)) (sep : List UInt8) (w : World) (hr : Rd w w.heap.size 1 A n (cellsS l)) (hc : n ≤ c) (hlen : (sep.intercalate l).length ≤ 1000000) (hn : n ≤ 1000000) :
    Calls Tryd.prog 39 #[.slice A n c, .string ⟨sep.toArray⟩] w fun e w' => e = .returned (.string ⟨(sep.intercalate l).toArray⟩) ∧ Below w.heap.size w w' := by
  have hl := hr.slen
  by_cases h0 : n = 0
  · subst h0
    have hl0 : l = [] := List.length_eq_zero_iff.1 hl
    subst hl0
    exact (Any.strings_Join_none Tryd.lJoin bxJoin A c ⟨sep.toArray⟩ w).mono fun e w' ⟨h1, h2⟩ => ⟨h1, by rw [h2]; exact Below.refl _ _⟩
  · obtain ⟨b, off, rfl, hb, hcell⟩ := hr.2 (by omega)
    have hx : (l.map fun x => (⟨x.toArray⟩ : ByteArray)).map (·.data.toList) = l := by
      rw [List.map_map]
      conv => rhs; rw [← List.map_id l]
      exact List.map_congr_left fun x _ => by simp
    have hlx : (l.map fun x => (⟨x.toArray⟩ : ByteArray)).length = n := by rw [List.length_map, hl]
    have J := Any.strings_Join Tryd.lJoin bxJoin b off c (l.map fun x => (⟨x.toArray⟩ : ByteArray)) ⟨sep.toArray⟩ w (fun j x hj => hcell j _ (by
      rw [List.getElem?_map] at hj
      rw [cellsS, List.getElem?_map]
      cases hq : l[j]? with
      | none => rw [hq] at hj; cases hj
      | some y => rw [hq] at hj; injection hj with hj; rw [← hj]; rfl)) hb (by rw [hlx]; omega) (by rw [hlx]; exact hc) (by
      rw [hx]
      show (Go.Lib.join l sep.toArray.toList).length ≤ _
      rw [show sep.toArray.toList = sep by simp]
      unfold Go.Lib.join
      omega)
    rw [hlx, hx] at J
    refine J.mono fun e w' ⟨h1, h2⟩ => ⟨h1.trans ?_, h2⟩
    show Ending.returned (.string ⟨(Go.Lib.join l sep.toArray.toList).toArray⟩) = _
    rw [show sep.toArray.toList = sep by simp]
    rfl

set_option maxRecDepth 100000 in
set_option maxHeartbeats 2000000 in
theorem print_any (A : Option Addr) (n cap : Nat) (h : List HOp) (w : World) (hr : Rd w w.heap.size 3 A n (cellsH h)) (hok : okH h) :
    Calls Tryd.prog 22 #[.slice A n cap] w fun e w' => e = .returned (.tuple #[.string ⟨(printL h).toArray⟩, .nilIface]) ∧ Below w.heap.size w w' := by
  have hn : n ≤ 40 := by rw [← hr.hlen]; exact okH_len hok
  have C := right_h A n cap h w hr (by omega)
  rw [show (checkF h).2 = 0 from hok, errV_zero] at C
  have HC := hide C
  have HL := Lib.hid hr.hlen
  have HR := Lib.hid (okH_right hok)
  have HP : Hid (([32] : List UInt8).intercalate (h.map textL) = printL h ∧ (printL h).length ≤ 1000000) := Lib.hid ⟨rfl, by
    have := printL_len h (okH_right hok)
    have := okH_len hok
    omega⟩
  clear C hok
  go_enter Tryd.func22, Tryd.ntmps22
  go_wp2_with fail
  refine (unhide HC).mono ?_
  rintro e w1 ⟨rfl, hb1⟩
  go_wp2
  go_loopw [5, 15] (fun s5 s15 wr => ∃ k : Nat, k ≤ n ∧ s15 = .int .i64 k ∧ wr.ownsRow w.heap.size 9 1 s5 k (cellsS ((h.take k).map textL)) ∧ Below w.heap.size w wr) (fun _ s15 _ => n - (intOf s15).toNat)
  case atStart => exact ⟨0, Nat.zero_le _, rfl, World.ownsRow_nil _ _ _ _, hb1⟩
  case round =>
    clear hb1 HC
    obtain ⟨k, hk, rfl, hown, hbw⟩ := hrel
    obtain ⟨A5, c5, rfl⟩ := own_slice hown
    by_cases hlt : k < n
    · obtain ⟨b, off, o, he, hb, ho, c0, c1, c2⟩ := (hr.below hbw).op (k := k) (by omega)
      cases he
      have hro := HR.out o (List.mem_of_getElem? ho)
      have HT : Hid ((h.take k).map textL ++ [textL o] = (h.take (k + 1)).map textL) := Lib.hid (by rw [List.take_add_one, ho]; simp)
      have CT := hide (fun W => text_any o hro W)
      obtain ⟨o1, o2, o3⟩ := o
      simp only at c0 c1 c2
      unfold HOp.val at CT
      generalize textL ⟨o1, o2, o3⟩ = tl at *
      clear ho hro
      have hz := hbw.size
      have hb4 : Below w.heap.size w (wr.alloc (.cells #[.int .i64 o1, .int .i64 o2, .int .i64 o3] 28)) := hbw.alloc hz _
      have ho4 := own_alloc hown (.cells #[.int .i64 o1, .int .i64 o2, .int .i64 o3] 28)
      clear hown
      go_wp2_with fail
      refine (unhide CT _).mono ?_
      rintro e w5 ⟨rfl, hb5⟩
      have ho5 := own_below ho4 hb5 (Nat.le_refl _)
      have hbw5 := hb4.trans (hb5.mono hb4.size)
      clear ho4 hb4 hb5
      have hz5 := hbw5.size
      go_wp2_with (at_builtin; refine wpList_app rfl (.tmp 19) (.tmp 22) _ rfl w.heap.size slt_strs (n := k) (xs := cellsS ((h.take k).map textL)) (m := 1) (news := cellsS [tl]) rfl (own_alloc ho5 _) rfl (rd_new' _ _ (cellsS [tl]) (by simp) rfl) (oneS _) (by omega) (by simp; omega) ?_; intro v6 w6 hown6 hg6 hb6 hat6 hne6)
      have hb7 := (hbw5.alloc hz5 (.cells (cellsS [tl]).toArray 9)).trans hb6
      have e1 : cellsS ((h.take k).map textL) ++ cellsS [tl] = cellsS ((h.take (k + 1)).map textL) := by rw [← HT.out]; simp [cellsS]
      rw [e1] at hown6
      clear e1
      go_roundw
      case rel => exact ⟨k + 1, by omega, by go_num, hown6, hb7⟩
      case measure => simp [intOf]; omega
    · obtain rfl : k = n := by omega
      have hd := rd_own hown
      rw [List.take_of_length_le (by rw [HL.out]; omega)] at hd
      obtain ⟨hn0, hcap⟩ : k ≤ 40 ∧ k ≤ c5 := ⟨hn, own_capS hown⟩
      have CJ := hide (join_any A5 k c5 (h.map textL) [32] wr hd hcap (by rw [HP.out.1]; exact HP.out.2) (by omega))
      rw [HP.out.1] at CJ
      clear hd hown
      go_wp2_with fail
      refine (unhide CJ).mono ?_
      rintro e w5 ⟨rfl, hb5⟩
      have hbw5 := hbw.trans (hb5.mono hbw.size)
      go_wp2
      go_ret2
      exact ⟨rfl, hbw5⟩
theorem print_no (A : Option Addr) (n cap : Nat) (h : List HOp) (w : World) (hr : Rd w w.heap.size 3 A n (cellsH h)) (hm : n ≤ 6000000000000) (hno : ¬ okH h) :
    Calls Tryd.prog 22 #[.slice A n cap] w fun e w' => e = .returned (.tuple #[.string ⟨#[]⟩, errV (checkF h).2]) ∧ Below w.heap.size w w' := by
  have C := right_h A n cap h w hr hm
  rw [ne_errV (show (checkF h).2 ≠ 0 from hno)] at C ⊢
  generalize (checkF h).2 = ev at *
  have HC := hide C
  clear C hno
  go_enter Tryd.func22, Tryd.ntmps22
  go_wp2_with fail
  refine (unhide HC).mono ?_
  rintro e w1 ⟨rfl, hb1⟩
  go_wp2
  go_ret2
  exact ⟨rfl, hb1⟩
end Go.Proofs.YtahbaddclacakaaDoor
