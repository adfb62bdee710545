
/-
  CONTRACT of history.text: an op that is right, as text.
-/
import Derived.Test.YtaaahfbcpgdoiaaGreatDoorQ1
import Derived.RegionTactic
import Derived.BigRegion
import Derived.Laws.BytesArg
import Derived.Laws.Concat

namespace Go.Proofs.YtaaahfbcpgdoiaaGreatDoor
open Go.RowKit

theorem byte_of (n : Int) (a : Nat) (h : n = 48 + (a : Int)) : Go.strOfNums [n] = ⟨#[UInt8.ofNat (48 + a)]⟩ := by
  subst h
  unfold Go.strOfNums
  show ByteArray.mk #[UInt8.ofNat ((48 + (a : Int)).toNat)] = _
  rw [show (48 + (a : Int)).toNat = 48 + a by omega]
theorem wrap8 {n : Int} (h0 : 0 ≤ n) (h1 : n < 256) : IntKind.u8.wrap n = n := by
  rw [show IntKind.u8.wrap n = n % 256 by simp [IntKind.wrap, IntKind.bits, IntKind.signed]]
  omega
theorem ret_str {a b : ByteArray} (h : a = b) : Ending.returned (.string a) = .returned (.string b) := by rw [h]
theorem str2 (a b : UInt8) : (ByteArray.mk #[a] ++ ByteArray.mk #[b]) = ⟨#[a, b]⟩ := by
  apply ByteArray.ext
  simp [ByteArray.data_append]
theorem str5 (a b c d e : UInt8) : (ByteArray.mk #[a] ++ ByteArray.mk #[b] ++ ByteArray.mk #[c] ++ ByteArray.mk #[d] ++ ByteArray.mk #[e]) = ⟨#[a, b, c, d, e]⟩ := by
  apply ByteArray.ext
  simp [ByteArray.data_append]
theorem conv_digit (w : World) (a item tx : Int) (h1 : 1 ≤ tx) (h2 : tx ≤ 6) :
    (Go.convert 33 9 (.slice (some ⟨w.heap.size + 1, 0, none⟩) 1 1)).run Tryz.prog ((w.alloc (.cells #[.int .i64 tx, .int .i64 a, .int .i64 item] 91)).alloc (.cells #[.int .u8 (48 + tx)] 5)).drew
      = .ok (.string ⟨#[UInt8.ofNat (48 + tx.toNat)]⟩) ((w.alloc (.cells #[.int .i64 tx, .int .i64 a, .int .i64 item] 91)).alloc (.cells #[.int .u8 (48 + tx)] 5)).drew := by
  have HC := run_convert_bytes_arg (P := Tryz.prog) (((w.alloc (.cells #[.int .i64 tx, .int .i64 a, .int .i64 item] 91)).alloc (.cells #[.int .u8 (48 + tx)] 5)).drew) 33 5 Tryz.underlying33 Tryz.underlying5 (w.heap.size + 1) 0 1 1 [48 + tx] rfl (fun i hi => by
    obtain rfl : i = 0 := by omega
    rw [World.cell?_drew, show w.heap.size + 1 = (w.alloc (.cells #[.int .i64 tx, .int .i64 a, .int .i64 item] 91)).heap.size by simp]
    simp) 9 Tryz.underlying9
  rw [byte_of (48 + tx) tx.toNat (by omega)] at HC
  exact HC
set_option maxHeartbeats 1000000 in
theorem text_1_1 (tx : Int) (h1 : 1 ≤ tx) (h2 : tx ≤ 6) (w : World) :
    Calls Tryz.prog 85 #[(⟨tx, 1, 1⟩ : HOp).val] w fun e w' => e = .returned (.string ⟨(textL ⟨tx, 1, 1⟩).toArray⟩) ∧ Below w.heap.size w w' := by
  have E := ends_any ⟨tx, 1, 1⟩
  rw [show endsB ⟨tx, 1, 1⟩ = false by unfold endsB; simp] at E
  have e1 : IntKind.u8.wrap tx = tx := wrap8 (by omega) (by omega)
  have e2 : IntKind.u8.wrap (48 + tx) = 48 + tx := wrap8 (by omega) (by omega)
  have HC := conv_digit w 1 1 tx h1 h2
  obtain ⟨c, hc⟩ : ∃ c, UInt8.ofNat (48 + tx.toNat) = c := ⟨_, rfl⟩
  have HR : Hid ((⟨(textL ⟨tx, 1, 1⟩).toArray⟩ : ByteArray) = ⟨#[114, c, 40, 97, 41]⟩) := Lib.hid (by rw [← hc]; rfl)
  rw [hc] at HC
  unfold HOp.val at E ⊢
  have HE := hide E
  clear E hc
  have x1 : (ByteArray.mk #[114, 119, 99, 97]).extract 0 1 = ⟨#[114]⟩ := by decide
  have x2 : (ByteArray.mk #[97, 98, 99, 100, 101, 102]).extract 0 1 = ⟨#[97]⟩ := by decide
  have hb0 : Below w.heap.size w ((w.alloc (.cells #[.int .i64 tx, .int .i64 1, .int .i64 1] 91)).alloc (.cells #[.int .u8 (48 + tx)] 5)).drew := ((((Below.refl _ _).alloc (Nat.le_refl _) _).alloc (by simp) _).drew)
  go_enter Tryz.func85, Tryz.ntmps85
  go_wp2
  go_region
  go_wp2_with (go_at_call 62; refine (unhide HE _).mono ?_; rintro e w1 ⟨rfl, hb1⟩; obtain ⟨hc, hf⟩ := bcell hb1)
  go_ret
  exact ⟨ret_str ((str5 _ _ _ _ _).trans HR.out.symm), hb0.trans (hb1.mono hb0.size)⟩
set_option maxHeartbeats 1000000 in
theorem text_1_2 (tx : Int) (h1 : 1 ≤ tx) (h2 : tx ≤ 6) (w : World) :
    Calls Tryz.prog 85 #[(⟨tx, 1, 2⟩ : HOp).val] w fun e w' => e = .returned (.string ⟨(textL ⟨tx, 1, 2⟩).toArray⟩) ∧ Below w.heap.size w w' := by
  have E := ends_any ⟨tx, 1, 2⟩
  rw [show endsB ⟨tx, 1, 2⟩ = false by unfold endsB; simp] at E
  have e1 : IntKind.u8.wrap tx = tx := wrap8 (by omega) (by omega)
  have e2 : IntKind.u8.wrap (48 + tx) = 48 + tx := wrap8 (by omega) (by omega)
  have HC := conv_digit w 1 2 tx h1 h2
  obtain ⟨c, hc⟩ : ∃ c, UInt8.ofNat (48 + tx.toNat) = c := ⟨_, rfl⟩
  have HR : Hid ((⟨(textL ⟨tx, 1, 2⟩).toArray⟩ : ByteArray) = ⟨#[114, c, 40, 98, 41]⟩) := Lib.hid (by rw [← hc]; rfl)
  rw [hc] at HC
  unfold HOp.val at E ⊢
  have HE := hide E
  clear E hc
  have x1 : (ByteArray.mk #[114, 119, 99, 97]).extract 0 1 = ⟨#[114]⟩ := by decide
  have x2 : (ByteArray.mk #[97, 98, 99, 100, 101, 102]).extract 1 2 = ⟨#[98]⟩ := by decide
  have hb0 : Below w.heap.size w ((w.alloc (.cells #[.int .i64 tx, .int .i64 1, .int .i64 2] 91)).alloc (.cells #[.int .u8 (48 + tx)] 5)).drew := ((((Below.refl _ _).alloc (Nat.le_refl _) _).alloc (by simp) _).drew)
  go_enter Tryz.func85, Tryz.ntmps85
  go_wp2
  go_region
  go_wp2_with (go_at_call 62; refine (unhide HE _).mono ?_; rintro e w1 ⟨rfl, hb1⟩; obtain ⟨hc, hf⟩ := bcell hb1)
  go_ret
  exact ⟨ret_str ((str5 _ _ _ _ _).trans HR.out.symm), hb0.trans (hb1.mono hb0.size)⟩
set_option maxHeartbeats 1000000 in
theorem text_1_3 (tx : Int) (h1 : 1 ≤ tx) (h2 : tx ≤ 6) (w : World) :
    Calls Tryz.prog 85 #[(⟨tx, 1, 3⟩ : HOp).val] w fun e w' => e = .returned (.string ⟨(textL ⟨tx, 1, 3⟩).toArray⟩) ∧ Below w.heap.size w w' := by
  have E := ends_any ⟨tx, 1, 3⟩
  rw [show endsB ⟨tx, 1, 3⟩ = false by unfold endsB; simp] at E
  have e1 : IntKind.u8.wrap tx = tx := wrap8 (by omega) (by omega)
  have e2 : IntKind.u8.wrap (48 + tx) = 48 + tx := wrap8 (by omega) (by omega)
  have HC := conv_digit w 1 3 tx h1 h2
  obtain ⟨c, hc⟩ : ∃ c, UInt8.ofNat (48 + tx.toNat) = c := ⟨_, rfl⟩
  have HR : Hid ((⟨(textL ⟨tx, 1, 3⟩).toArray⟩ : ByteArray) = ⟨#[114, c, 40, 99, 41]⟩) := Lib.hid (by rw [← hc]; rfl)
  rw [hc] at HC
  unfold HOp.val at E ⊢
  have HE := hide E
  clear E hc
  have x1 : (ByteArray.mk #[114, 119, 99, 97]).extract 0 1 = ⟨#[114]⟩ := by decide
  have x2 : (ByteArray.mk #[97, 98, 99, 100, 101, 102]).extract 2 3 = ⟨#[99]⟩ := by decide
  have hb0 : Below w.heap.size w ((w.alloc (.cells #[.int .i64 tx, .int .i64 1, .int .i64 3] 91)).alloc (.cells #[.int .u8 (48 + tx)] 5)).drew := ((((Below.refl _ _).alloc (Nat.le_refl _) _).alloc (by simp) _).drew)
  go_enter Tryz.func85, Tryz.ntmps85
  go_wp2
  go_region
  go_wp2_with (go_at_call 62; refine (unhide HE _).mono ?_; rintro e w1 ⟨rfl, hb1⟩; obtain ⟨hc, hf⟩ := bcell hb1)
  go_ret
  exact ⟨ret_str ((str5 _ _ _ _ _).trans HR.out.symm), hb0.trans (hb1.mono hb0.size)⟩
set_option maxHeartbeats 1000000 in
theorem text_1_4 (tx : Int) (h1 : 1 ≤ tx) (h2 : tx ≤ 6) (w : World) :
    Calls Tryz.prog 85 #[(⟨tx, 1, 4⟩ : HOp).val] w fun e w' => e = .returned (.string ⟨(textL ⟨tx, 1, 4⟩).toArray⟩) ∧ Below w.heap.size w w' := by
  have E := ends_any ⟨tx, 1, 4⟩
  rw [show endsB ⟨tx, 1, 4⟩ = false by unfold endsB; simp] at E
  have e1 : IntKind.u8.wrap tx = tx := wrap8 (by omega) (by omega)
  have e2 : IntKind.u8.wrap (48 + tx) = 48 + tx := wrap8 (by omega) (by omega)
  have HC := conv_digit w 1 4 tx h1 h2
  obtain ⟨c, hc⟩ : ∃ c, UInt8.ofNat (48 + tx.toNat) = c := ⟨_, rfl⟩
  have HR : Hid ((⟨(textL ⟨tx, 1, 4⟩).toArray⟩ : ByteArray) = ⟨#[114, c, 40, 100, 41]⟩) := Lib.hid (by rw [← hc]; rfl)
  rw [hc] at HC
  unfold HOp.val at E ⊢
  have HE := hide E
  clear E hc
  have x1 : (ByteArray.mk #[114, 119, 99, 97]).extract 0 1 = ⟨#[114]⟩ := by decide
  have x2 : (ByteArray.mk #[97, 98, 99, 100, 101, 102]).extract 3 4 = ⟨#[100]⟩ := by decide
  have hb0 : Below w.heap.size w ((w.alloc (.cells #[.int .i64 tx, .int .i64 1, .int .i64 4] 91)).alloc (.cells #[.int .u8 (48 + tx)] 5)).drew := ((((Below.refl _ _).alloc (Nat.le_refl _) _).alloc (by simp) _).drew)
  go_enter Tryz.func85, Tryz.ntmps85
  go_wp2
  go_region
  go_wp2_with (go_at_call 62; refine (unhide HE _).mono ?_; rintro e w1 ⟨rfl, hb1⟩; obtain ⟨hc, hf⟩ := bcell hb1)
  go_ret
  exact ⟨ret_str ((str5 _ _ _ _ _).trans HR.out.symm), hb0.trans (hb1.mono hb0.size)⟩
set_option maxHeartbeats 1000000 in
theorem text_1_5 (tx : Int) (h1 : 1 ≤ tx) (h2 : tx ≤ 6) (w : World) :
    Calls Tryz.prog 85 #[(⟨tx, 1, 5⟩ : HOp).val] w fun e w' => e = .returned (.string ⟨(textL ⟨tx, 1, 5⟩).toArray⟩) ∧ Below w.heap.size w w' := by
  have E := ends_any ⟨tx, 1, 5⟩
  rw [show endsB ⟨tx, 1, 5⟩ = false by unfold endsB; simp] at E
  have e1 : IntKind.u8.wrap tx = tx := wrap8 (by omega) (by omega)
  have e2 : IntKind.u8.wrap (48 + tx) = 48 + tx := wrap8 (by omega) (by omega)
  have HC := conv_digit w 1 5 tx h1 h2
  obtain ⟨c, hc⟩ : ∃ c, UInt8.ofNat (48 + tx.toNat) = c := ⟨_, rfl⟩
  have HR : Hid ((⟨(textL ⟨tx, 1, 5⟩).toArray⟩ : ByteArray) = ⟨#[114, c, 40, 101, 41]⟩) := Lib.hid (by rw [← hc]; rfl)
  rw [hc] at HC
  unfold HOp.val at E ⊢
  have HE := hide E
  clear E hc
  have x1 : (ByteArray.mk #[114, 119, 99, 97]).extract 0 1 = ⟨#[114]⟩ := by decide
  have x2 : (ByteArray.mk #[97, 98, 99, 100, 101, 102]).extract 4 5 = ⟨#[101]⟩ := by decide
  have hb0 : Below w.heap.size w ((w.alloc (.cells #[.int .i64 tx, .int .i64 1, .int .i64 5] 91)).alloc (.cells #[.int .u8 (48 + tx)] 5)).drew := ((((Below.refl _ _).alloc (Nat.le_refl _) _).alloc (by simp) _).drew)
  go_enter Tryz.func85, Tryz.ntmps85
  go_wp2
  go_region
  go_wp2_with (go_at_call 62; refine (unhide HE _).mono ?_; rintro e w1 ⟨rfl, hb1⟩; obtain ⟨hc, hf⟩ := bcell hb1)
  go_ret
  exact ⟨ret_str ((str5 _ _ _ _ _).trans HR.out.symm), hb0.trans (hb1.mono hb0.size)⟩
set_option maxHeartbeats 1000000 in
theorem text_1_6 (tx : Int) (h1 : 1 ≤ tx) (h2 : tx ≤ 6) (w : World) :
    Calls Tryz.prog 85 #[(⟨tx, 1, 6⟩ : HOp).val] w fun e w' => e = .returned (.string ⟨(textL ⟨tx, 1, 6⟩).toArray⟩) ∧ Below w.heap.size w w' := by
  have E := ends_any ⟨tx, 1, 6⟩
  rw [show endsB ⟨tx, 1, 6⟩ = false by unfold endsB; simp] at E
  have e1 : IntKind.u8.wrap tx = tx := wrap8 (by omega) (by omega)
  have e2 : IntKind.u8.wrap (48 + tx) = 48 + tx := wrap8 (by omega) (by omega)
  have HC := conv_digit w 1 6 tx h1 h2
  obtain ⟨c, hc⟩ : ∃ c, UInt8.ofNat (48 + tx.toNat) = c := ⟨_, rfl⟩
  have HR : Hid ((⟨(textL ⟨tx, 1, 6⟩).toArray⟩ : ByteArray) = ⟨#[114, c, 40, 102, 41]⟩) := Lib.hid (by rw [← hc]; rfl)
  rw [hc] at HC
  unfold HOp.val at E ⊢
  have HE := hide E
  clear E hc
  have x1 : (ByteArray.mk #[114, 119, 99, 97]).extract 0 1 = ⟨#[114]⟩ := by decide
  have x2 : (ByteArray.mk #[97, 98, 99, 100, 101, 102]).extract 5 6 = ⟨#[102]⟩ := by decide
  have hb0 : Below w.heap.size w ((w.alloc (.cells #[.int .i64 tx, .int .i64 1, .int .i64 6] 91)).alloc (.cells #[.int .u8 (48 + tx)] 5)).drew := ((((Below.refl _ _).alloc (Nat.le_refl _) _).alloc (by simp) _).drew)
  go_enter Tryz.func85, Tryz.ntmps85
  go_wp2
  go_region
  go_wp2_with (go_at_call 62; refine (unhide HE _).mono ?_; rintro e w1 ⟨rfl, hb1⟩; obtain ⟨hc, hf⟩ := bcell hb1)
  go_ret
  exact ⟨ret_str ((str5 _ _ _ _ _).trans HR.out.symm), hb0.trans (hb1.mono hb0.size)⟩
set_option maxHeartbeats 1000000 in
theorem text_2_1 (tx : Int) (h1 : 1 ≤ tx) (h2 : tx ≤ 6) (w : World) :
    Calls Tryz.prog 85 #[(⟨tx, 2, 1⟩ : HOp).val] w fun e w' => e = .returned (.string ⟨(textL ⟨tx, 2, 1⟩).toArray⟩) ∧ Below w.heap.size w w' := by
  have E := ends_any ⟨tx, 2, 1⟩
  rw [show endsB ⟨tx, 2, 1⟩ = false by unfold endsB; simp] at E
  have e1 : IntKind.u8.wrap tx = tx := wrap8 (by omega) (by omega)
  have e2 : IntKind.u8.wrap (48 + tx) = 48 + tx := wrap8 (by omega) (by omega)
  have HC := conv_digit w 2 1 tx h1 h2
  obtain ⟨c, hc⟩ : ∃ c, UInt8.ofNat (48 + tx.toNat) = c := ⟨_, rfl⟩
  have HR : Hid ((⟨(textL ⟨tx, 2, 1⟩).toArray⟩ : ByteArray) = ⟨#[119, c, 40, 97, 41]⟩) := Lib.hid (by rw [← hc]; rfl)
  rw [hc] at HC
  unfold HOp.val at E ⊢
  have HE := hide E
  clear E hc
  have x1 : (ByteArray.mk #[114, 119, 99, 97]).extract 1 2 = ⟨#[119]⟩ := by decide
  have x2 : (ByteArray.mk #[97, 98, 99, 100, 101, 102]).extract 0 1 = ⟨#[97]⟩ := by decide
  have hb0 : Below w.heap.size w ((w.alloc (.cells #[.int .i64 tx, .int .i64 2, .int .i64 1] 91)).alloc (.cells #[.int .u8 (48 + tx)] 5)).drew := ((((Below.refl _ _).alloc (Nat.le_refl _) _).alloc (by simp) _).drew)
  go_enter Tryz.func85, Tryz.ntmps85
  go_wp2
  go_region
  go_wp2_with (go_at_call 62; refine (unhide HE _).mono ?_; rintro e w1 ⟨rfl, hb1⟩; obtain ⟨hc, hf⟩ := bcell hb1)
  go_ret
  exact ⟨ret_str ((str5 _ _ _ _ _).trans HR.out.symm), hb0.trans (hb1.mono hb0.size)⟩
set_option maxHeartbeats 1000000 in
theorem text_2_2 (tx : Int) (h1 : 1 ≤ tx) (h2 : tx ≤ 6) (w : World) :
    Calls Tryz.prog 85 #[(⟨tx, 2, 2⟩ : HOp).val] w fun e w' => e = .returned (.string ⟨(textL ⟨tx, 2, 2⟩).toArray⟩) ∧ Below w.heap.size w w' := by
  have E := ends_any ⟨tx, 2, 2⟩
  rw [show endsB ⟨tx, 2, 2⟩ = false by unfold endsB; simp] at E
  have e1 : IntKind.u8.wrap tx = tx := wrap8 (by omega) (by omega)
  have e2 : IntKind.u8.wrap (48 + tx) = 48 + tx := wrap8 (by omega) (by omega)
  have HC := conv_digit w 2 2 tx h1 h2
  obtain ⟨c, hc⟩ : ∃ c, UInt8.ofNat (48 + tx.toNat) = c := ⟨_, rfl⟩
  have HR : Hid ((⟨(textL ⟨tx, 2, 2⟩).toArray⟩ : ByteArray) = ⟨#[119, c, 40, 98, 41]⟩) := Lib.hid (by rw [← hc]; rfl)
  rw [hc] at HC
  unfold HOp.val at E ⊢
  have HE := hide E
  clear E hc
  have x1 : (ByteArray.mk #[114, 119, 99, 97]).extract 1 2 = ⟨#[119]⟩ := by decide
  have x2 : (ByteArray.mk #[97, 98, 99, 100, 101, 102]).extract 1 2 = ⟨#[98]⟩ := by decide
  have hb0 : Below w.heap.size w ((w.alloc (.cells #[.int .i64 tx, .int .i64 2, .int .i64 2] 91)).alloc (.cells #[.int .u8 (48 + tx)] 5)).drew := ((((Below.refl _ _).alloc (Nat.le_refl _) _).alloc (by simp) _).drew)
  go_enter Tryz.func85, Tryz.ntmps85
  go_wp2
  go_region
  go_wp2_with (go_at_call 62; refine (unhide HE _).mono ?_; rintro e w1 ⟨rfl, hb1⟩; obtain ⟨hc, hf⟩ := bcell hb1)
  go_ret
  exact ⟨ret_str ((str5 _ _ _ _ _).trans HR.out.symm), hb0.trans (hb1.mono hb0.size)⟩
set_option maxHeartbeats 1000000 in
theorem text_2_3 (tx : Int) (h1 : 1 ≤ tx) (h2 : tx ≤ 6) (w : World) :
    Calls Tryz.prog 85 #[(⟨tx, 2, 3⟩ : HOp).val] w fun e w' => e = .returned (.string ⟨(textL ⟨tx, 2, 3⟩).toArray⟩) ∧ Below w.heap.size w w' := by
  have E := ends_any ⟨tx, 2, 3⟩
  rw [show endsB ⟨tx, 2, 3⟩ = false by unfold endsB; simp] at E
  have e1 : IntKind.u8.wrap tx = tx := wrap8 (by omega) (by omega)
  have e2 : IntKind.u8.wrap (48 + tx) = 48 + tx := wrap8 (by omega) (by omega)
  have HC := conv_digit w 2 3 tx h1 h2
  obtain ⟨c, hc⟩ : ∃ c, UInt8.ofNat (48 + tx.toNat) = c := ⟨_, rfl⟩
  have HR : Hid ((⟨(textL ⟨tx, 2, 3⟩).toArray⟩ : ByteArray) = ⟨#[119, c, 40, 99, 41]⟩) := Lib.hid (by rw [← hc]; rfl)
  rw [hc] at HC
  unfold HOp.val at E ⊢
  have HE := hide E
  clear E hc
  have x1 : (ByteArray.mk #[114, 119, 99, 97]).extract 1 2 = ⟨#[119]⟩ := by decide
  have x2 : (ByteArray.mk #[97, 98, 99, 100, 101, 102]).extract 2 3 = ⟨#[99]⟩ := by decide
  have hb0 : Below w.heap.size w ((w.alloc (.cells #[.int .i64 tx, .int .i64 2, .int .i64 3] 91)).alloc (.cells #[.int .u8 (48 + tx)] 5)).drew := ((((Below.refl _ _).alloc (Nat.le_refl _) _).alloc (by simp) _).drew)
  go_enter Tryz.func85, Tryz.ntmps85
  go_wp2
  go_region
  go_wp2_with (go_at_call 62; refine (unhide HE _).mono ?_; rintro e w1 ⟨rfl, hb1⟩; obtain ⟨hc, hf⟩ := bcell hb1)
  go_ret
  exact ⟨ret_str ((str5 _ _ _ _ _).trans HR.out.symm), hb0.trans (hb1.mono hb0.size)⟩
set_option maxHeartbeats 1000000 in
theorem text_2_4 (tx : Int) (h1 : 1 ≤ tx) (h2 : tx ≤ 6) (w : World) :
    Calls Tryz.prog 85 #[(⟨tx, 2, 4⟩ : HOp).val] w fun e w' => e = .returned (.string ⟨(textL ⟨tx, 2, 4⟩).toArray⟩) ∧ Below w.heap.size w w' := by
  have E := ends_any ⟨tx, 2, 4⟩
  rw [show endsB ⟨tx, 2, 4⟩ = false by unfold endsB; simp] at E
  have e1 : IntKind.u8.wrap tx = tx := wrap8 (by omega) (by omega)
  have e2 : IntKind.u8.wrap (48 + tx) = 48 + tx := wrap8 (by omega) (by omega)
  have HC := conv_digit w 2 4 tx h1 h2
  obtain ⟨c, hc⟩ : ∃ c, UInt8.ofNat (48 + tx.toNat) = c := ⟨_, rfl⟩
  have HR : Hid ((⟨(textL ⟨tx, 2, 4⟩).toArray⟩ : ByteArray) = ⟨#[119, c, 40, 100, 41]⟩) := Lib.hid (by rw [← hc]; rfl)
  rw [hc] at HC
  unfold HOp.val at E ⊢
  have HE := hide E
  clear E hc
  have x1 : (ByteArray.mk #[114, 119, 99, 97]).extract 1 2 = ⟨#[119]⟩ := by decide
  have x2 : (ByteArray.mk #[97, 98, 99, 100, 101, 102]).extract 3 4 = ⟨#[100]⟩ := by decide
  have hb0 : Below w.heap.size w ((w.alloc (.cells #[.int .i64 tx, .int .i64 2, .int .i64 4] 91)).alloc (.cells #[.int .u8 (48 + tx)] 5)).drew := ((((Below.refl _ _).alloc (Nat.le_refl _) _).alloc (by simp) _).drew)
  go_enter Tryz.func85, Tryz.ntmps85
  go_wp2
  go_region
  go_wp2_with (go_at_call 62; refine (unhide HE _).mono ?_; rintro e w1 ⟨rfl, hb1⟩; obtain ⟨hc, hf⟩ := bcell hb1)
  go_ret
  exact ⟨ret_str ((str5 _ _ _ _ _).trans HR.out.symm), hb0.trans (hb1.mono hb0.size)⟩
set_option maxHeartbeats 1000000 in
theorem text_2_5 (tx : Int) (h1 : 1 ≤ tx) (h2 : tx ≤ 6) (w : World) :
    Calls Tryz.prog 85 #[(⟨tx, 2, 5⟩ : HOp).val] w fun e w' => e = .returned (.string ⟨(textL ⟨tx, 2, 5⟩).toArray⟩) ∧ Below w.heap.size w w' := by
  have E := ends_any ⟨tx, 2, 5⟩
  rw [show endsB ⟨tx, 2, 5⟩ = false by unfold endsB; simp] at E
  have e1 : IntKind.u8.wrap tx = tx := wrap8 (by omega) (by omega)
  have e2 : IntKind.u8.wrap (48 + tx) = 48 + tx := wrap8 (by omega) (by omega)
  have HC := conv_digit w 2 5 tx h1 h2
  obtain ⟨c, hc⟩ : ∃ c, UInt8.ofNat (48 + tx.toNat) = c := ⟨_, rfl⟩
  have HR : Hid ((⟨(textL ⟨tx, 2, 5⟩).toArray⟩ : ByteArray) = ⟨#[119, c, 40, 101, 41]⟩) := Lib.hid (by rw [← hc]; rfl)
  rw [hc] at HC
  unfold HOp.val at E ⊢
  have HE := hide E
  clear E hc
  have x1 : (ByteArray.mk #[114, 119, 99, 97]).extract 1 2 = ⟨#[119]⟩ := by decide
  have x2 : (ByteArray.mk #[97, 98, 99, 100, 101, 102]).extract 4 5 = ⟨#[101]⟩ := by decide
  have hb0 : Below w.heap.size w ((w.alloc (.cells #[.int .i64 tx, .int .i64 2, .int .i64 5] 91)).alloc (.cells #[.int .u8 (48 + tx)] 5)).drew := ((((Below.refl _ _).alloc (Nat.le_refl _) _).alloc (by simp) _).drew)
  go_enter Tryz.func85, Tryz.ntmps85
  go_wp2
  go_region
  go_wp2_with (go_at_call 62; refine (unhide HE _).mono ?_; rintro e w1 ⟨rfl, hb1⟩; obtain ⟨hc, hf⟩ := bcell hb1)
  go_ret
  exact ⟨ret_str ((str5 _ _ _ _ _).trans HR.out.symm), hb0.trans (hb1.mono hb0.size)⟩
set_option maxHeartbeats 1000000 in
theorem text_2_6 (tx : Int) (h1 : 1 ≤ tx) (h2 : tx ≤ 6) (w : World) :
    Calls Tryz.prog 85 #[(⟨tx, 2, 6⟩ : HOp).val] w fun e w' => e = .returned (.string ⟨(textL ⟨tx, 2, 6⟩).toArray⟩) ∧ Below w.heap.size w w' := by
  have E := ends_any ⟨tx, 2, 6⟩
  rw [show endsB ⟨tx, 2, 6⟩ = false by unfold endsB; simp] at E
  have e1 : IntKind.u8.wrap tx = tx := wrap8 (by omega) (by omega)
  have e2 : IntKind.u8.wrap (48 + tx) = 48 + tx := wrap8 (by omega) (by omega)
  have HC := conv_digit w 2 6 tx h1 h2
  obtain ⟨c, hc⟩ : ∃ c, UInt8.ofNat (48 + tx.toNat) = c := ⟨_, rfl⟩
  have HR : Hid ((⟨(textL ⟨tx, 2, 6⟩).toArray⟩ : ByteArray) = ⟨#[119, c, 40, 102, 41]⟩) := Lib.hid (by rw [← hc]; rfl)
  rw [hc] at HC
  unfold HOp.val at E ⊢
  have HE := hide E
  clear E hc
  have x1 : (ByteArray.mk #[114, 119, 99, 97]).extract 1 2 = ⟨#[119]⟩ := by decide
  have x2 : (ByteArray.mk #[97, 98, 99, 100, 101, 102]).extract 5 6 = ⟨#[102]⟩ := by decide
  have hb0 : Below w.heap.size w ((w.alloc (.cells #[.int .i64 tx, .int .i64 2, .int .i64 6] 91)).alloc (.cells #[.int .u8 (48 + tx)] 5)).drew := ((((Below.refl _ _).alloc (Nat.le_refl _) _).alloc (by simp) _).drew)
  go_enter Tryz.func85, Tryz.ntmps85
  go_wp2
  go_region
  go_wp2_with (go_at_call 62; refine (unhide HE _).mono ?_; rintro e w1 ⟨rfl, hb1⟩; obtain ⟨hc, hf⟩ := bcell hb1)
  go_ret
  exact ⟨ret_str ((str5 _ _ _ _ _).trans HR.out.symm), hb0.trans (hb1.mono hb0.size)⟩
set_option maxHeartbeats 1000000 in
theorem text_3_0 (tx : Int) (h1 : 1 ≤ tx) (h2 : tx ≤ 6) (w : World) :
    Calls Tryz.prog 85 #[(⟨tx, 3, 0⟩ : HOp).val] w fun e w' => e = .returned (.string ⟨(textL ⟨tx, 3, 0⟩).toArray⟩) ∧ Below w.heap.size w w' := by
  have E := ends_any ⟨tx, 3, 0⟩
  rw [show endsB ⟨tx, 3, 0⟩ = true by unfold endsB; simp] at E
  have e1 : IntKind.u8.wrap tx = tx := wrap8 (by omega) (by omega)
  have e2 : IntKind.u8.wrap (48 + tx) = 48 + tx := wrap8 (by omega) (by omega)
  have HC := conv_digit w 3 0 tx h1 h2
  obtain ⟨c, hc⟩ : ∃ c, UInt8.ofNat (48 + tx.toNat) = c := ⟨_, rfl⟩
  have HR : Hid ((⟨(textL ⟨tx, 3, 0⟩).toArray⟩ : ByteArray) = ⟨#[99, c]⟩) := Lib.hid (by rw [← hc]; rfl)
  rw [hc] at HC
  unfold HOp.val at E ⊢
  have HE := hide E
  clear E hc
  have x1 : (ByteArray.mk #[114, 119, 99, 97]).extract 2 3 = ⟨#[99]⟩ := by decide
  have hb0 : Below w.heap.size w ((w.alloc (.cells #[.int .i64 tx, .int .i64 3, .int .i64 0] 91)).alloc (.cells #[.int .u8 (48 + tx)] 5)).drew := ((((Below.refl _ _).alloc (Nat.le_refl _) _).alloc (by simp) _).drew)
  go_enter Tryz.func85, Tryz.ntmps85
  go_wp2
  go_region
  go_wp2_with (go_at_call 62; refine (unhide HE _).mono ?_; rintro e w1 ⟨rfl, hb1⟩; obtain ⟨hc, hf⟩ := bcell hb1)
  go_ret
  exact ⟨ret_str ((str2 _ _).trans HR.out.symm), hb0.trans (hb1.mono hb0.size)⟩
set_option maxHeartbeats 1000000 in
theorem text_4_0 (tx : Int) (h1 : 1 ≤ tx) (h2 : tx ≤ 6) (w : World) :
    Calls Tryz.prog 85 #[(⟨tx, 4, 0⟩ : HOp).val] w fun e w' => e = .returned (.string ⟨(textL ⟨tx, 4, 0⟩).toArray⟩) ∧ Below w.heap.size w w' := by
  have E := ends_any ⟨tx, 4, 0⟩
  rw [show endsB ⟨tx, 4, 0⟩ = true by unfold endsB; simp] at E
  have e1 : IntKind.u8.wrap tx = tx := wrap8 (by omega) (by omega)
  have e2 : IntKind.u8.wrap (48 + tx) = 48 + tx := wrap8 (by omega) (by omega)
  have HC := conv_digit w 4 0 tx h1 h2
  obtain ⟨c, hc⟩ : ∃ c, UInt8.ofNat (48 + tx.toNat) = c := ⟨_, rfl⟩
  have HR : Hid ((⟨(textL ⟨tx, 4, 0⟩).toArray⟩ : ByteArray) = ⟨#[97, c]⟩) := Lib.hid (by rw [← hc]; rfl)
  rw [hc] at HC
  unfold HOp.val at E ⊢
  have HE := hide E
  clear E hc
  have x1 : (ByteArray.mk #[114, 119, 99, 97]).extract 3 4 = ⟨#[97]⟩ := by decide
  have hb0 : Below w.heap.size w ((w.alloc (.cells #[.int .i64 tx, .int .i64 4, .int .i64 0] 91)).alloc (.cells #[.int .u8 (48 + tx)] 5)).drew := ((((Below.refl _ _).alloc (Nat.le_refl _) _).alloc (by simp) _).drew)
  go_enter Tryz.func85, Tryz.ntmps85
  go_wp2
  go_region
  go_wp2_with (go_at_call 62; refine (unhide HE _).mono ?_; rintro e w1 ⟨rfl, hb1⟩; obtain ⟨hc, hf⟩ := bcell hb1)
  go_ret
  exact ⟨ret_str ((str2 _ _).trans HR.out.symm), hb0.trans (hb1.mono hb0.size)⟩
/-- An op that is right, as text. -/
theorem text_any (o : HOp) (ho : rightB o = true) (w : World) : Calls Tryz.prog 85 #[o.val] w fun e w' => e = .returned (.string ⟨(textL o).toArray⟩) ∧ Below w.heap.size w w' := by
  obtain ⟨h1, h2, h3, h4, h5, h6⟩ := rightB_get ho
  obtain ⟨t, a, i⟩ := o
  simp only at *
  by_cases ha : a < 3
  · obtain ⟨i1, i2⟩ := h5 ha
    have ha2 : a = 1 ∨ a = 2 := by omega
    have hi : i = 1 ∨ i = 2 ∨ i = 3 ∨ i = 4 ∨ i = 5 ∨ i = 6 := by omega
    rcases ha2 with rfl | rfl
    · rcases hi with rfl | rfl | rfl | rfl | rfl | rfl
      · exact text_1_1 t h1 h2 w
      · exact text_1_2 t h1 h2 w
      · exact text_1_3 t h1 h2 w
      · exact text_1_4 t h1 h2 w
      · exact text_1_5 t h1 h2 w
      · exact text_1_6 t h1 h2 w
    · rcases hi with rfl | rfl | rfl | rfl | rfl | rfl
      · exact text_2_1 t h1 h2 w
      · exact text_2_2 t h1 h2 w
      · exact text_2_3 t h1 h2 w
      · exact text_2_4 t h1 h2 w
      · exact text_2_5 t h1 h2 w
      · exact text_2_6 t h1 h2 w
  · have hi := h6 (by omega)
    subst hi
    have ha2 : a = 3 ∨ a = 4 := by omega
    rcases ha2 with rfl | rfl
    · exact text_3_0 t h1 h2 w
    · exact text_4_0 t h1 h2 w
end Go.Proofs.YtaaahfbcpgdoiaaGreatDoor
