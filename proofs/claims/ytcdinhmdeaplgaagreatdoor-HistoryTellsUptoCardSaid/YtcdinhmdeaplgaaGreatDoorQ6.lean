
/-
  CONTRACTS of play.play, Values, Seen.
  CONTRACTS of strings.Join, history.Print.
-/
import Derived.Test.YtcdinhmdeaplgaaGreatDoorQ3
import Derived.Deep.LoopGhost
import Derived.Test.YtcdinhmdeaplgaaGreatDoorText
import Derived.Test.YtcdinhmdeaplgaaGreatDoorApp
import Derived.Test.YtcdinhmdeaplgaaGreatDoorLaysS

namespace Go.Proofs.YtcdinhmdeaplgaaGreatDoor
open Go.RowKit

def playGo (vs seen : List Int) (ds : List (Int × Int)) : List HOp → List Int × List Int
  | [] => (vs, seen)
  | o :: t =>
    if o.what = 1 then playGo vs (seen ++ [vs.getD (o.item.toNat - 1) 0]) (ds.set o.tx.toNat ((ds.getD o.tx.toNat (0, 0)).1 + 1, (ds.getD o.tx.toNat (0, 0)).2 + vs.getD (o.item.toNat - 1) 0)) t
    else if o.what = 2 then playGo (vs.set (o.item.toNat - 1) ((7 * o.tx + ((ds.getD o.tx.toNat (0, 0)).1 + 1) + (ds.getD o.tx.toNat (0, 0)).2) % 1000003)) seen (ds.set o.tx.toNat ((ds.getD o.tx.toNat (0, 0)).1 + 1, (ds.getD o.tx.toNat (0, 0)).2)) t
    else playGo vs seen (ds.set o.tx.toNat ((ds.getD o.tx.toNat (0, 0)).1 + 1, (ds.getD o.tx.toNat (0, 0)).2)) t
def playF (h : List HOp) : List Int × List Int := playGo (List.replicate 6 0) [] (List.replicate 7 (0, 0)) (doneL h)

def dcells (ds : List (Int × Int)) : List Value := ds.flatMap fun d => [.int .i64 d.1, .int .i64 d.2]
theorem dcells_at {ds : List (Int × Int)} {k : Nat} {d : Int × Int} (hk : ds[k]? = some d) : (dcells ds)[k * 2]? = some (.int .i64 d.1) ∧ (dcells ds)[k * 2 + 1]? = some (.int .i64 d.2) := by
  induction ds generalizing k with
  | nil => simp at hk
  | cons p t ih =>
    have e : dcells (p :: t) = [.int .i64 p.1, .int .i64 p.2] ++ dcells t := rfl
    cases k with
    | zero =>
      obtain rfl : p = d := by simpa using hk
      rw [e]; simp
    | succ k =>
      have hk' := ih (k := k) (by simpa using hk)
      have e0 : (k + 1) * 2 = k * 2 + 2 := by omega
      rw [e, e0]
      refine ⟨?_, ?_⟩ <;> rw [List.getElem?_append_right (by simp)]
      · exact hk'.1
      · exact hk'.2
theorem dcells_set (ds : List (Int × Int)) (i : Nat) (d : Int × Int) : ((dcells ds).set (i * 2) (.int .i64 d.1)).set (i * 2 + 1) (.int .i64 d.2) = dcells (ds.set i d) := by
  induction ds generalizing i with
  | nil => rfl
  | cons p t ih =>
    have e : dcells (p :: t) = [.int .i64 p.1, .int .i64 p.2] ++ dcells t := rfl
    cases i with
    | zero => rfl
    | succ i =>
      have e2 : dcells ((p :: t).set (i + 1) d) = [.int .i64 p.1, .int .i64 p.2] ++ dcells (t.set i d) := rfl
      have e0 : (i + 1) * 2 = i * 2 + 2 := by omega
      rw [e, e2, ← ih, e0]
      simp
theorem dcells_set1 (ds : List (Int × Int)) (i : Nat) (d d' : Int × Int) (hi : ds[i]? = some d) (h2 : d'.2 = d.2) : (dcells ds).set (i * 2) (.int .i64 d'.1) = dcells (ds.set i d') := by
  rw [← dcells_set, h2]
  have := (dcells_at hi).2
  have hl : i * 2 + 1 < (dcells ds).length := (List.getElem?_eq_some_iff.1 this).1
  have h3 : ((dcells ds).set (i * 2) (Value.int IntKind.i64 d'.1))[i * 2 + 1]? = some (.int .i64 d.2) := by rw [List.getElem?_set_ne (by omega)]; exact this
  obtain ⟨h4, h5⟩ := List.getElem?_eq_some_iff.1 h3
  rw [← h5, List.set_getElem_self]

theorem bds_set {ds : List (Int × Int)} {k : Nat} {i : Nat} {d : Int × Int} (h : ∀ d ∈ ds, 0 ≤ d.1 ∧ d.1 ≤ k ∧ 0 ≤ d.2 ∧ d.2 ≤ k * 1000003) (hd : 0 ≤ d.1 ∧ d.1 ≤ (k + 1 : Nat) ∧ 0 ≤ d.2 ∧ d.2 ≤ (k + 1 : Nat) * 1000003) :
    ∀ d' ∈ ds.set i d, 0 ≤ d'.1 ∧ d'.1 ≤ (k + 1 : Nat) ∧ 0 ≤ d'.2 ∧ d'.2 ≤ (k + 1 : Nat) * 1000003 := by
  intro d' hd'
  rcases List.mem_or_eq_of_mem_set hd' with h1 | rfl
  · have := h d' h1; omega
  · exact hd
theorem make6 (w : World) : (Instr.makeSlice 30 (.int .i64 6) (.int .i64 6)).run Tryz.prog w = .ok (.slice (some ⟨w.heap.size, 0, none⟩) 6 6) (w.alloc (.cells #[.int .i64 0, .int .i64 0, .int .i64 0, .int .i64 0, .int .i64 0, .int .i64 0] 3)) := by kernel_rfl

theorem ne_errV {e : Int} (h : e ≠ 0) : errV e = .iface 51 (.int .i64 e) := if_neg h
theorem errV_zero : errV 0 = .nilIface := rfl

end Go.Proofs.YtcdinhmdeaplgaaGreatDoor


namespace Go.Proofs.YtcdinhmdeaplgaaGreatDoor
open Go.RowKit Go.Shelf

theorem bxJoin : Builder.Extra Tryz.prog Tryz.lJoin_ren where
  sizeBuilder := by kernel_rfl
  liesBuilder := by kernel_rfl
  t5 := Tryz.underlying5
  a5 := Tryz.isAgg5
  z5 := Tryz.sizeOf5
  v5 := Tryz.zeroValue5
  infoByte := by kernel_rfl
  cellsByte := by kernel_rfl
  sizeByte := by kernel_rfl
  neB5 := by decide
/-- The cells of a list of strings. -/
def cellsS (l : List (List UInt8)) : List Value := l.map fun x => .string ⟨x.toArray⟩
theorem cellsS_len (l : List (List UInt8)) : (cellsS l).length = l.length := by simp [cellsS]
theorem oneS (l : List (List UInt8)) : ∀ u ∈ cellsS l, u.oneCell' = true := by
  intro u hu
  obtain ⟨x, _, rfl⟩ := List.mem_map.1 hu
  rfl
theorem own_capS {w : World} {base : Nat} {e : TypeId} {size : Nat} {A : Option Addr} {n c : Nat} {xs : List Value} (h : w.ownsRow base e size (.slice A n c) n xs) : n ≤ c := by
  obtain ⟨_, ⟨he, h0⟩ | ⟨g, cap, cur, he, _, _, h1, _⟩⟩ := h
  · omega
  · injection he with e1 e2 e3; omega
/-- An outcome: who is done, what was seen, who wrote last. -/
theorem slt_strs : SlT Tryz.prog 58 9 1 16 := slt_of (z := .string ByteArray.empty) Tryz.underlying58 (by kernel_rfl) (by decide) (by decide) (by decide)
theorem Rd.slen {w : World} {B n : Nat} {A : Option Addr} {l : List (List UInt8)} (h : Rd w B 1 A n (cellsS l)) : l.length = n := by
  have hl := h.1
  rw [cellsS_len] at hl
  omega
/-- strings.Join, with what stands between as literal bytes. -/
theorem join_any (A : Option Addr) (n c : Nat) (l : List (List UInt8)) (sep : List UInt8) (w : World) (hr : Rd w w.heap.size 1 A n (cellsS l)) (hc : n ≤ c) (hlen : (sep.intercalate l).length ≤ 1000000) (hn : n ≤ 1000000) :
    Calls Tryz.prog 29 #[.slice A n c, .string ⟨sep.toArray⟩] w fun e w' => e = .returned (.string ⟨(sep.intercalate l).toArray⟩) ∧ Below w.heap.size w w' := by
  have hl := hr.slen
  by_cases h0 : n = 0
  · subst h0
    have hl0 : l = [] := List.length_eq_zero_iff.1 hl
    subst hl0
    exact (Any.strings_Join_none Tryz.lJoin bxJoin A c ⟨sep.toArray⟩ w).mono fun e w' ⟨h1, h2⟩ => ⟨h1, by rw [h2]; exact Below.refl _ _⟩
  · obtain ⟨b, off, rfl, hb, hcell⟩ := hr.2 (by omega)
    have hx : (l.map fun x => (⟨x.toArray⟩ : ByteArray)).map (·.data.toList) = l := by
      rw [List.map_map]
      conv => rhs; rw [← List.map_id l]
      exact List.map_congr_left fun x _ => by simp
    have hlx : (l.map fun x => (⟨x.toArray⟩ : ByteArray)).length = n := by rw [List.length_map, hl]
    have J := Any.strings_Join Tryz.lJoin bxJoin b off c (l.map fun x => (⟨x.toArray⟩ : ByteArray)) ⟨sep.toArray⟩ w (fun j x hj => hcell j _ (by
      rw [List.getElem?_map] at hj
      rw [cellsS, List.getElem?_map]
      cases hq : l[j]? with
      | none => rw [hq] at hj; cases hj
      | some y => rw [hq] at hj; injection hj with hj; rw [← hj]; rfl)) hb (by rw [hlx]; omega) (by rw [hlx]; exact hc) (by
      rw [hx]
      show (Go.Lib.join l sep.toArray.toList).length ≤ _
      rw [show sep.toArray.toList = sep by simp]
      unfold Go.Lib.join
      omega)
    rw [hlx, hx] at J
    refine J.mono fun e w' ⟨h1, h2⟩ => ⟨h1.trans ?_, h2⟩
    show Ending.returned (.string ⟨(Go.Lib.join l sep.toArray.toList).toArray⟩) = _
    rw [show sep.toArray.toList = sep by simp]
    rfl

set_option maxRecDepth 100000 in
set_option maxHeartbeats 2000000 in
theorem print_any (A : Option Addr) (n cap : Nat) (h : List HOp) (w : World) (hr : Rd w w.heap.size 3 A n (cellsH h)) (hok : okH h) :
    Calls Tryz.prog 14 #[.slice A n cap] w fun e w' => e = .returned (.tuple #[.string ⟨(printL h).toArray⟩, .nilIface]) ∧ Below w.heap.size w w' := by
  have hn : n ≤ 40 := by rw [← hr.hlen]; exact okH_len hok
  have C := right_h A n cap h w hr (by omega)
  rw [show (checkF h).2 = 0 from hok, errV_zero] at C
  have HC := hide C
  have HL := Lib.hid hr.hlen
  have HR := Lib.hid (okH_right hok)
  have HP : Hid (([32] : List UInt8).intercalate (h.map textL) = printL h ∧ (printL h).length ≤ 1000000) := Lib.hid ⟨rfl, by
    have := printL_len h (okH_right hok)
    have := okH_len hok
    omega⟩
  clear C hok
  go_enter Tryz.func14, Tryz.ntmps14
  go_wp2_with fail
  refine (unhide HC).mono ?_
  rintro e w1 ⟨rfl, hb1⟩
  go_wp2
  go_loopw [5, 15] (fun s5 s15 wr => ∃ k : Nat, k ≤ n ∧ s15 = .int .i64 k ∧ wr.ownsRow w.heap.size 9 1 s5 k (cellsS ((h.take k).map textL)) ∧ Below w.heap.size w wr) (fun _ s15 _ => n - (intOf s15).toNat)
  case atStart => exact ⟨0, Nat.zero_le _, rfl, World.ownsRow_nil _ _ _ _, hb1⟩
  case round =>
    clear hb1 HC
    obtain ⟨k, hk, rfl, hown, hbw⟩ := hrel
    obtain ⟨A5, c5, rfl⟩ := own_slice hown
    by_cases hlt : k < n
    · obtain ⟨b, off, o, he, hb, ho, c0, c1, c2⟩ := (hr.below hbw).op (k := k) (by omega)
      cases he
      have hro := HR.out o (List.mem_of_getElem? ho)
      have HT : Hid ((h.take k).map textL ++ [textL o] = (h.take (k + 1)).map textL) := Lib.hid (by rw [List.take_add_one, ho]; simp)
      have CT := hide (fun W => text_any o hro W)
      obtain ⟨o1, o2, o3⟩ := o
      simp only at c0 c1 c2
      unfold HOp.val at CT
      generalize textL ⟨o1, o2, o3⟩ = tl at *
      clear ho hro
      have hz := hbw.size
      have hb4 : Below w.heap.size w (wr.alloc (.cells #[.int .i64 o1, .int .i64 o2, .int .i64 o3] 50)) := hbw.alloc hz _
      have ho4 := own_alloc hown (.cells #[.int .i64 o1, .int .i64 o2, .int .i64 o3] 50)
      clear hown
      go_wp2_with fail
      refine (unhide CT _).mono ?_
      rintro e w5 ⟨rfl, hb5⟩
      have ho5 := own_below ho4 hb5 (Nat.le_refl _)
      have hbw5 := hb4.trans (hb5.mono hb4.size)
      clear ho4 hb4 hb5
      have hz5 := hbw5.size
      go_wp2_with (at_builtin; refine wpList_app rfl (.tmp 19) (.tmp 22) _ rfl w.heap.size slt_strs (n := k) (xs := cellsS ((h.take k).map textL)) (m := 1) (news := cellsS [tl]) rfl (own_alloc ho5 _) rfl (rd_new' _ _ (cellsS [tl]) (by simp) rfl) (oneS _) (by omega) (by simp; omega) ?_; intro v6 w6 hown6 hg6 hb6 hat6 hne6)
      have hb7 := (hbw5.alloc hz5 (.cells (cellsS [tl]).toArray 9)).trans hb6
      have e1 : cellsS ((h.take k).map textL) ++ cellsS [tl] = cellsS ((h.take (k + 1)).map textL) := by rw [← HT.out]; simp [cellsS]
      rw [e1] at hown6
      clear e1
      go_roundw
      case rel => exact ⟨k + 1, by omega, by go_num, hown6, hb7⟩
      case measure => simp [intOf]; omega
    · obtain rfl : k = n := by omega
      have hd := rd_own hown
      rw [List.take_of_length_le (by rw [HL.out]; omega)] at hd
      obtain ⟨hn0, hcap⟩ : k ≤ 40 ∧ k ≤ c5 := ⟨hn, own_capS hown⟩
      have CJ := hide (join_any A5 k c5 (h.map textL) [32] wr hd hcap (by rw [HP.out.1]; exact HP.out.2) (by omega))
      rw [HP.out.1] at CJ
      clear hd hown
      go_wp2_with fail
      refine (unhide CJ).mono ?_
      rintro e w5 ⟨rfl, hb5⟩
      have hbw5 := hbw.trans (hb5.mono hbw.size)
      go_wp2
      go_ret2
      exact ⟨rfl, hbw5⟩
theorem print_no (A : Option Addr) (n cap : Nat) (h : List HOp) (w : World) (hr : Rd w w.heap.size 3 A n (cellsH h)) (hm : n ≤ 6000000000000) (hno : ¬ okH h) :
    Calls Tryz.prog 14 #[.slice A n cap] w fun e w' => e = .returned (.tuple #[.string ⟨#[]⟩, errV (checkF h).2]) ∧ Below w.heap.size w w' := by
  have C := right_h A n cap h w hr hm
  rw [ne_errV (show (checkF h).2 ≠ 0 from hno)] at C ⊢
  generalize (checkF h).2 = ev at *
  have HC := hide C
  clear C hno
  go_enter Tryz.func14, Tryz.ntmps14
  go_wp2_with fail
  refine (unhide HC).mono ?_
  rintro e w1 ⟨rfl, hb1⟩
  go_wp2
  go_ret2
  exact ⟨rfl, hb1⟩
end Go.Proofs.YtcdinhmdeaplgaaGreatDoor
