
/-
  PLAIN LAWS of laneref1.Read: the op that a word can only be; words one behind the other.
  CONTRACT of laneref1.Text: a history that is right, as text.
  CONTRACT of laneref1.Cut: a text cut at each byte c.
-/
import Derived.Test.YtcdinhmdeaplgaaGreatDoorQ3
import Derived.Test.YtcdinhmdeaplgaaGreatDoorQ21
import Derived.Deep.QuietTactic
import Derived.Laws.Concat
import Derived.Test.YtcdinhmdeaplgaaGreatDoorQ6

namespace Go.Proofs.YtcdinhmdeaplgaaGreatDoor
open Go.RowKit

def whatG (b : UInt8) : Int := if b = 114 then 1 else if b = 119 then 2 else if b = 99 then 3 else if b = 97 then 4 else 0
/-- The op that a word can only be. -/
def guessF (x : List UInt8) : HOp := if x.length = 2 ∨ x.length = 5 then ⟨((x.getD 1 0).toNat : Int) - 48, whatG (x.getD 0 0), if x.length = 5 then ((x.getD 3 0).toNat : Int) - 96 else 0⟩ else ⟨0, 0, 0⟩
theorem guess_text : ∀ o ∈ allOps, guessF (textL o) = o := by decide +kernel
theorem guess_yes {x : List UInt8} (h1 : (checkF [guessF x]).2 = 0) (h2 : textL (guessF x) = x) : wordF x = some (guessF x) := by
  have hr := okH_right (show okH [guessF x] from h1) (guessF x) List.mem_cons_self
  conv => lhs; rw [← h2]
  exact wordF_text hr
theorem okH_oneR {o : HOp} (h : rightB o = true) : (checkF [o]).2 = 0 := by
  have key : ∀ o ∈ allOps, (checkF [o]).2 = 0 := by decide +kernel
  exact key o (mem_allOps.1 h)
theorem guess_no {x : List UInt8} (h : (checkF [guessF x]).2 ≠ 0 ∨ textL (guessF x) ≠ x) : wordF x = none := by
  cases e : wordF x with
  | none => rfl
  | some o =>
    exfalso
    obtain ⟨h1, h2⟩ := wordF_some e
    have hg := guess_text o (mem_allOps.1 h1)
    rw [h2] at hg
    rcases h with h | h
    · exact h (by rw [hg]; exact okH_oneR h1)
    · exact h (by rw [hg]; exact h2)
theorem wordsF_bad : ∀ {ws : List (List UInt8)} {x : List UInt8}, x ∈ ws → wordF x = none → wordsF ws = none
  | w :: r, x, hm, hx => by
    rw [wordsF]
    rcases List.mem_cons.1 hm with rfl | hm
    · rw [hx]
    · rw [wordsF_bad hm hx]
      cases wordF w <;> rfl
theorem wordsF_snoc : ∀ {ws : List (List UInt8)} {H : List HOp} {x : List UInt8} {o : HOp}, wordsF ws = some H → wordF x = some o → wordsF (ws ++ [x]) = some (H ++ [o])
  | [], H, x, o, h, hx => by
    injection h with h
    subst h
    rw [List.nil_append, wordsF, hx]; rfl
  | w :: r, H, x, o, h, hx => by
    rw [wordsF] at h
    rw [List.cons_append, wordsF]
    cases e : wordF w with
    | none => rw [e] at h; cases h
    | some p =>
      rw [e] at h
      cases e2 : wordsF r with
      | none => rw [e2] at h; cases h
      | some K =>
        rw [e2] at h
        injection h with h
        subst h
        simp only [wordsF_snoc e2 hx]
        rfl
end Go.Proofs.YtcdinhmdeaplgaaGreatDoor


namespace Go.Proofs.YtcdinhmdeaplgaaGreatDoor
open Go.RowKit

theorem tx_what {o : HOp} (h : rightB o = true) : ∃ (a t b : Nat) (c1 c2 c3 : UInt8), o.what = ((a + 1 : Nat) : Int) ∧ a < 4 ∧ o.tx = (t : Int) ∧ t < 7 ∧ (ByteArray.mk #[114, 119, 99, 97]).extract a (a + 1) = ⟨#[c1]⟩ ∧ (ByteArray.mk #[48, 49, 50, 51, 52, 53, 54]).extract t (t + 1) = ⟨#[c2]⟩ ∧
    ((a < 2 ∧ o.item = ((b + 1 : Nat) : Int) ∧ b < 6 ∧ (ByteArray.mk #[97, 98, 99, 100, 101, 102]).extract b (b + 1) = ⟨#[c3]⟩ ∧ textL o = [c1, c2, 40, c3, 41]) ∨ (¬ a < 2 ∧ textL o = [c1, c2])) := by
  have key : ∀ o ∈ allOps, (ByteArray.mk #[114, 119, 99, 97]).extract (o.what.toNat - 1) (o.what.toNat - 1 + 1) = ⟨#[(textL o).getD 0 0]⟩ ∧ (ByteArray.mk #[48, 49, 50, 51, 52, 53, 54]).extract o.tx.toNat (o.tx.toNat + 1) = ⟨#[(textL o).getD 1 0]⟩ ∧ 1 ≤ o.what ∧ o.what ≤ 4 ∧ 0 ≤ o.tx ∧ o.tx < 7 ∧
      ((o.what.toNat - 1 < 2 ∧ 1 ≤ o.item ∧ o.item ≤ 6 ∧ (ByteArray.mk #[97, 98, 99, 100, 101, 102]).extract (o.item.toNat - 1) (o.item.toNat - 1 + 1) = ⟨#[(textL o).getD 3 0]⟩ ∧ textL o = [(textL o).getD 0 0, (textL o).getD 1 0, 40, (textL o).getD 3 0, 41]) ∨ (¬ o.what.toNat - 1 < 2 ∧ textL o = [(textL o).getD 0 0, (textL o).getD 1 0])) := by decide +kernel
  obtain ⟨k1, k2, k3, k4, k5, k6, k7⟩ := key o (mem_allOps.1 h)
  refine ⟨o.what.toNat - 1, o.tx.toNat, o.item.toNat - 1, (textL o).getD 0 0, (textL o).getD 1 0, (textL o).getD 3 0, by omega, by omega, by omega, by omega, k1, k2, ?_⟩
  rcases k7 with ⟨a1, a2, a3, a4, a5⟩ | ⟨a1, a2⟩
  · exact .inl ⟨a1, by omega, by omega, a4, a5⟩
  · exact .inr ⟨a1, a2⟩

theorem text_step {h : List HOp} {i : Nat} {o : HOp} (ho : h[i]? = some o) : printL (h.take (i + 1)) = (if 0 < i then printL (h.take i) ++ [32] else []) ++ textL o := by
  have hl := (List.getElem?_eq_some_iff.1 ho).1
  rw [List.take_add_one, ho, Option.toList_some, printL_snoc]
  by_cases h0 : 0 < i
  · rw [if_pos h0, if_neg (fun e => by have := congrArg List.length e; rw [List.length_take, List.length_nil] at this; omega)]
    simp
  · obtain rfl : i = 0 := by omega
    rw [if_neg h0, if_pos (by simp)]
    simp
set_option maxRecDepth 100000 in
set_option maxHeartbeats 4000000 in
theorem rtext_any (A : Option Addr) (n cap : Nat) (h : List HOp) (w : World) (hr : Rd w w.heap.size 3 A n (cellsH h)) (hok : ∀ o ∈ h, rightB o = true) (hm : n ≤ 40) :
    Calls Tryz.prog 9 #[.slice A n cap] w fun e w' => e = .returned (.string ⟨(printL h).toArray⟩) ∧ Below w.heap.size w w' := by
  have hln := hr.hlen
  have HRW := hide (fun (o : HOp) (ho : o ∈ h) => tx_what (hok o ho))
  have HPL : Hid (∀ i, (printL (h.take i)).length ≤ 240) := Lib.hid (fun i => by
    have := printL_len (h.take i) fun o ho => hok o (List.mem_of_mem_take ho)
    rw [List.length_take] at this
    omega)
  clear hok
  go_enter Tryz.func9, Tryz.ntmps9
  go_wp2
  go_loopw [3, 4] (fun s3 s4 wr => ∃ i : Nat, i ≤ n ∧ s3 = .string ⟨(printL (h.take i)).toArray⟩ ∧ s4 = .int .i64 i ∧ Below w.heap.size w wr) (fun _ s4 _ => n - (intOf s4).toNat)
  case atStart => exact ⟨0, Nat.zero_le _, rfl, rfl, Below.refl _ _⟩
  case round =>
    obtain ⟨i, hi, rfl, rfl, hbw⟩ := hrel
    by_cases hlt : i < n
    · obtain ⟨b, off, o, he, hb, ho, y0, y1, y2⟩ := ((hr.below hbw).more hbw.size).op (k := i) hlt
      cases he
      obtain ⟨a, t, q, l1, l2, l3, e1, ha, e2, ht, x1, x2, hcs⟩ := unhide HRW o (List.mem_of_getElem? ho)
      have HTK := Lib.hid (List.take_add_one (l := h) (i := i))
      have HO := Lib.hid ho
      obtain ⟨o1, o2, o3⟩ := o
      simp only at *
      subst e1 e2
      have i1 : IntKind.i64.wrap (((a + 1 : Nat) : Int) - 1) = (a : Int) := by
        rw [show ((a + 1 : Nat) : Int) - 1 = (a : Int) by omega]; exact IntWalk.i64_in _ (by omega)
      have hltI : (i : Int) < (n : Int) := by omega
      clear ho
      obtain ⟨SB, hSB⟩ : ∃ SB : ByteArray, (⟨(printL (h.take i)).toArray⟩ : ByteArray) = SB := ⟨_, rfl⟩
      have hs : SB.size ≤ 240 := by
        have h1 := HPL.out i
        rw [← hSB]
        show (printL (h.take i)).length ≤ 240
        omega
      have HSB := Lib.hid hSB
      rw [hSB]
      clear hSB
      rcases hcs with ⟨ha2, e3, hq, x3, htx⟩ | ⟨ha2, htx⟩
      · subst e3
        have i2 : IntKind.i64.wrap (((q + 1 : Nat) : Int) - 1) = (q : Int) := by
          rw [show ((q + 1 : Nat) : Int) - 1 = (q : Int) by omega]; exact IntWalk.i64_in _ (by omega)
        have hw3 : ((a + 1 : Nat) : Int) < 3 := by omega
        have HTX := Lib.hid htx
        clear htx
        by_cases hi0 : 0 < i
        · have HST := Lib.hid (text_step HO.out)
          have hi1 : (0 : Int) < (i : Int) := by omega
          go_wp2
          go_quiet (fail)
          go_wp2
          go_roundw
          case rel => exact ⟨i + 1, by omega, by rw [HST.out, HTX.out, if_pos hi0, ← HSB.out]; congr 1; apply ByteArray.ext; simp [ByteArray.data_append], by go_num, by first | exact below_drewN (hbw.alloc hbw.size _) nq | exact below_drewN ((hbw.alloc hbw.size _).setCell (by simp; have := hbw.size; omega) _) nq⟩
          case measure => simp [intOf]; omega
        · have HST := Lib.hid (text_step HO.out)
          have hi1 : ¬ (0 : Int) < (i : Int) := by omega
          have HI0 : Hid (printL (h.take i) = []) := Lib.hid (by rw [show i = 0 by omega]; rfl)
          go_wp2
          go_quiet (fail)
          go_wp2
          go_roundw
          case rel => exact ⟨i + 1, by omega, by rw [HST.out, HTX.out, if_neg hi0, ← HSB.out]; congr 1; apply ByteArray.ext; simp [ByteArray.data_append, HI0.out], by go_num, by first | exact below_drewN (hbw.alloc hbw.size _) nq | exact below_drewN ((hbw.alloc hbw.size _).setCell (by simp; have := hbw.size; omega) _) nq⟩
          case measure => simp [intOf]; omega
      · have hw3 : ¬ ((a + 1 : Nat) : Int) < 3 := by omega
        have HTX := Lib.hid htx
        clear htx
        by_cases hi0 : 0 < i
        · have HST := Lib.hid (text_step HO.out)
          have hi1 : (0 : Int) < (i : Int) := by omega
          go_wp2
          go_quiet (fail)
          go_wp2
          go_roundw
          case rel => exact ⟨i + 1, by omega, by rw [HST.out, HTX.out, if_pos hi0, ← HSB.out]; congr 1; apply ByteArray.ext; simp [ByteArray.data_append], by go_num, by first | exact below_drewN (hbw.alloc hbw.size _) nq | exact below_drewN ((hbw.alloc hbw.size _).setCell (by simp; have := hbw.size; omega) _) nq⟩
          case measure => simp [intOf]; omega
        · have HST := Lib.hid (text_step HO.out)
          have hi1 : ¬ (0 : Int) < (i : Int) := by omega
          have HI0 : Hid (printL (h.take i) = []) := Lib.hid (by rw [show i = 0 by omega]; rfl)
          go_wp2
          go_quiet (fail)
          go_wp2
          go_roundw
          case rel => exact ⟨i + 1, by omega, by rw [HST.out, HTX.out, if_neg hi0, ← HSB.out]; congr 1; apply ByteArray.ext; simp [ByteArray.data_append, HI0.out], by go_num, by first | exact below_drewN (hbw.alloc hbw.size _) nq | exact below_drewN ((hbw.alloc hbw.size _).setCell (by simp; have := hbw.size; omega) _) nq⟩
          case measure => simp [intOf]; omega
    · obtain rfl : i = n := by omega
      rw [List.take_of_length_le (by omega)]
      go_wp2
      go_ret
      exact ⟨rfl, hbw⟩
end Go.Proofs.YtcdinhmdeaplgaaGreatDoor


namespace Go.Proofs.YtcdinhmdeaplgaaGreatDoor
open Go.RowKit

theorem cut_hit {c : UInt8} {s : List UInt8} {f i : Nat} (hf : f ≤ i) (hi : s[i]? = some c) (hn : c ∉ (s.drop f).take (i - f)) : cutL c (s.drop f) = (s.drop f).take (i - f) :: cutL c (s.drop (i + 1)) := by
  have hl := (List.getElem?_eq_some_iff.1 hi).1
  have e : s.drop f = (s.drop f).take (i - f) ++ c :: s.drop (i + 1) := by
    have h1 := (List.take_append_drop (i - f) (s.drop f)).symm
    rw [List.drop_drop, show f + (i - f) = i by omega] at h1
    conv => lhs; rw [h1]
    congr 1
    obtain ⟨hl, he⟩ := List.getElem?_eq_some_iff.1 hi
    rw [List.drop_eq_getElem_cons hl, he]
  conv => lhs; rw [e]
  exact cutL_at _ _ hn
theorem cut_miss {c b : UInt8} {s : List UInt8} {f i : Nat} (hf : f ≤ i) (hi : s[i]? = some b) (hne : b ≠ c) (hn : c ∉ (s.drop f).take (i - f)) : c ∉ (s.drop f).take (i + 1 - f) := by
  rw [show i + 1 - f = (i - f) + 1 by omega, List.take_add_one, List.getElem?_drop, show f + (i - f) = i by omega, hi]
  simp only [Option.toList_some, List.mem_append, List.mem_singleton, not_or]
  exact ⟨hn, fun e => hne e.symm⟩
set_option maxRecDepth 100000 in
set_option maxHeartbeats 4000000 in
theorem rcut_any (s : List UInt8) (c : UInt8) (w : World) (hs : s.length ≤ 4000000000) :
    Calls Tryz.prog 32 #[.string ⟨s.toArray⟩, .int .u8 c.toNat] w fun e w' => ∃ v, e = .returned v ∧ w'.ownsRow w.heap.size 9 1 v (cutL c s).length (cellsS (cutL c s)) ∧ Below w.heap.size w w' := by
  obtain ⟨n, hn⟩ : ∃ n, s.length = n := ⟨_, rfl⟩
  obtain ⟨sb, hsb⟩ : ∃ sb : ByteArray, (⟨s.toArray⟩ : ByteArray) = sb := ⟨_, rfl⟩
  have hsz : sb.size = n := by rw [← hsb]; exact hn
  have HSB := Lib.hid hsb
  have HN := Lib.hid hn
  rw [hn] at hs
  rw [hsb]
  clear hsb hn
  go_enter Tryz.func32, Tryz.ntmps32
  go_wp2
  go_loopw [5, 6, 7] (fun s5 s6 s7 wr => ∃ (i f m : Nat) (D : List (List UInt8)), i ≤ n ∧ f ≤ i ∧ m ≤ i ∧ s6 = .int .i64 f ∧ s7 = .int .i64 i ∧ wr.ownsRow w.heap.size 9 1 s5 m (cellsS D) ∧ Hid (cutL c s = D ++ cutL c (s.drop f) ∧ c ∉ (s.drop f).take (i - f)) ∧ Below w.heap.size w wr) (fun _ _ s7 _ => n - (intOf s7).toNat)
  case atStart => exact ⟨0, 0, 0, [], Nat.zero_le _, Nat.le_refl _, Nat.le_refl _, rfl, rfl, World.ownsRow_nil _ _ _ _, Lib.hid ⟨by simp, by simp⟩, Below.refl _ _⟩
  case round =>
    obtain ⟨i, f, m, D, hi, hfi, hmi, rfl, rfl, hown, HC, hbw⟩ := hrel
    obtain ⟨A5, c5, rfl⟩ := own_slice hown
    have hz := hbw.size
    by_cases hlt : i < n
    · have hltI : (i : Int) < (n : Int) := by omega
      have hls : i < s.length := by rw [HN.out]; exact hlt
      have hib : i < sb.size := by omega
      obtain ⟨x, hx⟩ : ∃ x, s[i] = x := ⟨_, rfl⟩
      have hx' : s[i]? = some x := by rw [List.getElem?_eq_getElem hls, hx]
      have hbx : (sb[i]'hib) = x := by
        rw [← hx]
        have e := HSB.out
        subst e
        show s.toArray[i] = s[i]
        simp
      have hext : sb.extract f i = ⟨((s.drop f).take (i - f)).toArray⟩ := by
        rw [← HSB.out]
        apply ByteArray.ext
        simp
      have HEX := Lib.hid hext
      have hfI : (f : Int) ≤ (i : Int) := by omega
      by_cases hxc : x = c
      · have hq : (((sb[i]'hib).toNat : Int) == (c.toNat : Int)) = true := by rw [hbx, hxc]; simp
        have HD := Lib.hid (cut_hit hfi (by rw [hx', hxc]) HC.out.2)
        clear hx hx' hbx hext hls
        go_wp2_with (at_builtin; (refine wpList_app rfl (.tmp 19) (.tmp 24) _ rfl w.heap.size slt_strs (n := m) (xs := cellsS D) (m := 1) (news := [.string (sb.extract f i)]) rfl (own_alloc hown _) rfl (rd_new' _ _ [.string (sb.extract f i)] (by simp) rfl) (one1 (x := .string (sb.extract f i)) rfl) (by omega) (by simp; omega) ?_; intro v6 w6 hown6 hg6 hb6 hat6 hne6))
        have hb7 : Below w.heap.size w w6 := (hbw.alloc hz _).trans hb6
        have e1 : cellsS D ++ [.string (sb.extract f i)] = cellsS (D ++ [(s.drop f).take (i - f)]) := by rw [HEX.out]; simp [cellsS]
        rw [e1] at hown6
        clear e1
        go_roundw
        case rel => exact ⟨i + 1, i + 1, m + 1, _, by omega, Nat.le_refl _, by omega, by go_num, by go_num, hown6, Lib.hid ⟨by rw [HC.out.1, HD.out]; simp, by simp⟩, hb7⟩
        case measure => simp [intOf]; omega
      · have hq : (((sb[i]'hib).toNat : Int) == (c.toNat : Int)) = false := by
          rw [hbx]
          have : ¬ ((x.toNat : Int) = (c.toNat : Int)) := fun e => hxc (UInt8.toNat_inj.1 (by omega))
          simp [this]
        have HD := Lib.hid (cut_miss hfi hx' hxc HC.out.2)
        clear hx hx' hbx hext hls
        go_wp2
        go_roundw
        case rel => exact ⟨i + 1, f, m, D, by omega, by omega, by omega, rfl, by go_num, hown, Lib.hid ⟨HC.out.1, HD.out⟩, hbw⟩
        case measure => simp [intOf]; omega
    · obtain rfl : i = n := by omega
      have hfI : (f : Int) ≤ (i : Int) := by omega
      have hext : sb.extract f i = ⟨(s.drop f).toArray⟩ := by
        rw [← HSB.out]
        apply ByteArray.ext
        have := HN.out
        simp [List.extract_eq_take_drop]
        rw [List.take_of_length_le (by rw [List.length_drop]; omega)]
      have hno : c ∉ s.drop f := by
        have := HC.out.2
        rwa [List.take_of_length_le (by rw [List.length_drop, HN.out]; omega)] at this
      have HD := Lib.hid (cutL_no hno)
      have HEX := Lib.hid hext
      clear hno hext
      go_wp2_with (at_builtin; (refine wpList_app rfl (.tmp 28) (.tmp 32) _ rfl w.heap.size slt_strs (n := m) (xs := cellsS D) (m := 1) (news := [.string (sb.extract f i)]) rfl (own_alloc hown _) rfl (rd_new' _ _ [.string (sb.extract f i)] (by simp) rfl) (one1 (x := .string (sb.extract f i)) rfl) (by omega) (by simp; omega) ?_; intro v6 w6 hown6 hg6 hb6 hat6 hne6))
      have hb7 : Below w.heap.size w w6 := (hbw.alloc hz _).trans hb6
      have e1 : cellsS D ++ [.string (sb.extract f i)] = cellsS (cutL c s) := by rw [HEX.out, HC.out.1, HD.out]; simp [cellsS]
      rw [e1] at hown6
      go_wp2
      go_ret
      have hl : (cutL c s).length = m + 1 := by have := hown6.1; simp [cellsS] at this; omega
      exact ⟨_, rfl, by rw [hl]; exact hown6, hb7⟩
end Go.Proofs.YtcdinhmdeaplgaaGreatDoor
