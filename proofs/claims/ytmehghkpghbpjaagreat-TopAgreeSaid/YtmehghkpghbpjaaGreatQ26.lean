
/-
  CONTRACTS of graph.Check, named, Sort, Order; slices.IndexFunc, ContainsFunc at edges, IndexFunc at numbers, Contains at numbers.
  CONTRACTS of slices.ContainsFunc at numbers and at deals, valid.Since, snap.See, snap.May.
  THE STATE OF valid.Play's walk: a run's heap, what lies beside it, and what each of its steps makes of it.
-/
import Derived.Test.YtmehghkpghbpjaaGreatQ8
import Derived.Test.YtmehghkpghbpjaaGreatQ1
import Derived.Test.YtmehghkpghbpjaaGreatQ25
import Derived.Test.YtmehghkpghbpjaaGreatQ7
import Derived.Test.YtmehghkpghbpjaaGreatValidH
import Derived.Test.YtmehghkpghbpjaaGreatQ10
import Derived.Deep.RegionHeld3

namespace Go.Proofs.YtmehghkpghbpjaaGreat
open Go.RowKit Go.Shelf

def eVal (e : Int × Int) : Value := .agg #[.int .i64 e.1, .int .i64 e.2]
set_option maxHeartbeats 400000 in
theorem indexFunc_edge (A : Option Addr) (n cap : Nat) (h : List (Int × Int)) (F : FuncId) (caps : Array Value) (p : (Int × Int) → Bool) (w : World) (hr : Rd w w.heap.size 2 A n (dcells h)) (hm : n ≤ 9000000000000)
    (hcall : ∀ (args : Array Value) (w : World), (callFunc F args).run Tryz.prog w = .ok (.enter F args) w)
    (hf : ∀ o ∈ h, ∀ w', Below w.heap.size w w' → Calls Tryz.prog F (#[eVal o] ++ caps) w' fun e w'' => e = .returned (.bool (p o)) ∧ Below w'.heap.size w' w'') :
    Calls Tryz.prog 128 #[.slice A n cap, .func (.func F) #[] caps] w fun e w' => e = .returned (.int .i64 (idxGo p 0 h)) ∧ Below w.heap.size w w' := by
  have hl := hr.dlen
  have HL := Lib.hid hl
  have HF := Lib.hid hf
  clear hl hf
  go_enter Tryz.func128, Tryz.ntmps128
  go_wp2
  go_loopw [8] (fun i wr => ∃ k : Nat, k ≤ n ∧ i = .int .i64 k ∧ Hid (idxGo p 0 h = idxGo p k (h.drop k)) ∧ Below w.heap.size w wr) (fun i _ => n - (intOf i).toNat)
  case atStart => exact ⟨0, Nat.zero_le _, rfl, rfl, Below.refl _ _⟩
  case round =>
    obtain ⟨k, hk, rfl, HE, hbw⟩ := hrel
    by_cases hlt : k < n
    · obtain ⟨b, off, o, he, hb, ho, c0, c1⟩ := (hr.below hbw).pr (k := k) (by omega)
      cases he
      have HO := Lib.hid (drop_at ho)
      have hmem := Lib.hid (List.mem_of_getElem? ho)
      clear ho
      cases hP : p o
      · have HE2 : Hid (idxGo p 0 h = idxGo p (k + 1) (h.drop (k + 1))) := Lib.hid (by rw [HE.out, HO.out]; simp [idxGo, hP])
        go_wp2_with fail
        refine (HF.out o hmem.out wr hbw).mono ?_
        rintro e w1 ⟨rfl, hb1⟩
        rw [hP]
        go_wp2
        go_roundw
        case rel => exact ⟨k + 1, by omega, by go_num, HE2, hbw.trans (hb1.mono hbw.size)⟩
        case measure => simp [intOf]; omega
      · have HE2 : Hid (idxGo p 0 h = k) := Lib.hid (by rw [HE.out, HO.out]; simp [idxGo, hP])
        go_wp2_with fail
        refine (HF.out o hmem.out wr hbw).mono ?_
        rintro e w1 ⟨rfl, hb1⟩
        rw [hP]
        go_wp2
        go_ret
        exact ⟨ret_int HE2.out.symm, hbw.trans (hb1.mono hbw.size)⟩
    · have HE2 : Hid (idxGo p 0 h = -1) := Lib.hid (by rw [HE.out, drop_end (by rw [HL.out]; omega)]; rfl)
      go_wp2
      go_ret
      exact ⟨ret_int HE2.out.symm, hbw⟩
theorem containsFunc_edge (A : Option Addr) (n cap : Nat) (h : List (Int × Int)) (F : FuncId) (caps : Array Value) (p : (Int × Int) → Bool) (w : World) (hr : Rd w w.heap.size 2 A n (dcells h)) (hm : n ≤ 9000000000000)
    (hcall : ∀ (args : Array Value) (w : World), (callFunc F args).run Tryz.prog w = .ok (.enter F args) w)
    (hf : ∀ o ∈ h, ∀ w', Below w.heap.size w w' → Calls Tryz.prog F (#[eVal o] ++ caps) w' fun e w'' => e = .returned (.bool (p o)) ∧ Below w'.heap.size w' w'') :
    Calls Tryz.prog 93 #[.slice A n cap, .func (.func F) #[] caps] w fun e w' => e = .returned (.bool (h.any p)) ∧ Below w.heap.size w w' := by
  have C := indexFunc_edge A n cap h F caps p w hr hm hcall hf
  have HA := Lib.hid (idxGo_any p h)
  generalize idxGo p 0 h = v at *
  have HC := hide C
  clear C hf hcall
  go_enter Tryz.func93, Tryz.ntmps93
  go_wp2_with fail
  refine (unhide HC).mono ?_
  rintro e w1 ⟨rfl, hb1⟩
  go_wp2
  go_ret
  exact ⟨ret_bool HA.out, hb1⟩
set_option maxHeartbeats 400000 in
theorem indexFunc_int (A : Option Addr) (n cap : Nat) (h : List Int) (F : FuncId) (caps : Array Value) (p : Int → Bool) (w : World) (hr : Rd w w.heap.size 1 A n (cellsI h)) (hm : n ≤ 6000000000000)
    (hcall : ∀ (args : Array Value) (w : World), (callFunc F args).run Tryz.prog w = .ok (.enter F args) w)
    (hf : ∀ o ∈ h, ∀ w', Below w.heap.size w w' → Calls Tryz.prog F (#[.int .i64 o] ++ caps) w' fun e w'' => e = .returned (.bool (p o)) ∧ Below w'.heap.size w' w'') :
    Calls Tryz.prog 91 #[.slice A n cap, .func (.func F) #[] caps] w fun e w' => e = .returned (.int .i64 (idxGo p 0 h)) ∧ Below w.heap.size w w' := by
  have hl := hr.ilen
  have HL := Lib.hid hl
  have HF := Lib.hid hf
  clear hl hf
  go_enter Tryz.func91, Tryz.ntmps91
  go_wp2
  go_loopw [8] (fun i wr => ∃ k : Nat, k ≤ n ∧ i = .int .i64 k ∧ Hid (idxGo p 0 h = idxGo p k (h.drop k)) ∧ Below w.heap.size w wr) (fun i _ => n - (intOf i).toNat)
  case atStart => exact ⟨0, Nat.zero_le _, rfl, rfl, Below.refl _ _⟩
  case round =>
    obtain ⟨k, hk, rfl, HE, hbw⟩ := hrel
    by_cases hlt : k < n
    · obtain ⟨b, off, o, he, hb, ho, c0⟩ := (hr.below hbw).int (k := k) (by omega)
      cases he
      have HO := Lib.hid (drop_at ho)
      have hmem := Lib.hid (List.mem_of_getElem? ho)
      clear ho
      cases hP : p o
      · have HE2 : Hid (idxGo p 0 h = idxGo p (k + 1) (h.drop (k + 1))) := Lib.hid (by rw [HE.out, HO.out]; simp [idxGo, hP])
        go_wp2_with fail
        refine (HF.out o hmem.out wr hbw).mono ?_
        rintro e w1 ⟨rfl, hb1⟩
        rw [hP]
        go_wp2
        go_roundw
        case rel => exact ⟨k + 1, by omega, by go_num, HE2, hbw.trans (hb1.mono hbw.size)⟩
        case measure => simp [intOf]; omega
      · have HE2 : Hid (idxGo p 0 h = k) := Lib.hid (by rw [HE.out, HO.out]; simp [idxGo, hP])
        go_wp2_with fail
        refine (HF.out o hmem.out wr hbw).mono ?_
        rintro e w1 ⟨rfl, hb1⟩
        rw [hP]
        go_wp2
        go_ret
        exact ⟨ret_int HE2.out.symm, hbw.trans (hb1.mono hbw.size)⟩
    · have HE2 : Hid (idxGo p 0 h = -1) := Lib.hid (by rw [HE.out, drop_end (by rw [HL.out]; omega)]; rfl)
      go_wp2
      go_ret
      exact ⟨ret_int HE2.out.symm, hbw⟩

theorem icontains_rd (A : Option Addr) (n c : Nat) (l : List Int) (x : Int) (w : World) (B : Nat) (hr : Rd w B 1 A n (cellsI l)) (hm : n ≤ 9223372036854775807) :
    Calls Tryz.prog 65 #[.slice A n c, .int .i64 x] w fun e w' => e = .returned (.bool (decide (x ∈ l))) ∧ w = w' := by
  have hl := hr.ilen
  rcases Nat.eq_zero_or_pos n with h0 | h0
  · subst h0
    have : l = [] := List.eq_nil_of_length_eq_zero hl
    subst this
    exact (Any.slices_Contains_int_empty Tryz.lContI A c x w).mono fun e w' ⟨he, hw⟩ => ⟨by rw [he]; simp, hw.symm⟩
  · obtain ⟨b, off, rfl, hb, hc⟩ := hr.2 h0
    refine (Any.slices_Contains_int Tryz.lContI b off n c l x w (by omega) hm (fun j hj => hc j _ (by rw [cellsI, List.getElem?_map, List.getElem?_eq_getElem hj]; simp [List.getD_eq_getElem?_getD, hj]))).mono fun e w' ⟨he, hw⟩ => ⟨?_, hw.symm⟩
    rw [he, List.take_of_length_le (by omega)]
    congr 2
    rw [Bool.eq_iff_iff, List.contains_iff_mem, decide_eq_true_iff]

/-! ### Check. -/
def badE (e : Int × Int) : Bool := !txB e.1 || !txB e.2
def checkG (E : List (Int × Int)) : Int := if 60 < E.length then 4 else if E.any badE then 1 else 0
/-! ### named. -/
def ends2 (E : List (Int × Int)) : List Int := E.flatMap fun e => [e.1, e.2]
def namedF (E : List (Int × Int)) : List Int := compL (sortI (ends2 E))
theorem ends2_snoc {E : List (Int × Int)} {k : Nat} {e : Int × Int} (h : E[k]? = some e) : ends2 (E.take (k + 1)) = ends2 (E.take k) ++ [e.1, e.2] := by
  rw [List.take_add_one, h]; simp [ends2]
theorem slt_ints : SlT Tryz.prog 28 3 1 8 := slt_int
end Go.Proofs.YtmehghkpghbpjaaGreat


namespace Go.Proofs.YtmehghkpghbpjaaGreat
open Go.RowKit

theorem Rd.plen {w : World} {B n : Nat} {A : Option Addr} {l : List Int} {g : Int → Nat} (h : Rd w B 1 A n (l.map fun t => .pointer (some ⟨g t, 0, none⟩))) : l.length = n := by
  have := h.1
  simpa using this
theorem Rd.ptr {w : World} {B n : Nat} {A : Option Addr} {l : List Int} {g : Int → Nat} (h : Rd w B 1 A n (l.map fun t => .pointer (some ⟨g t, 0, none⟩))) {k : Nat} (hk : k < n) :
    ∃ b off x, A = some ⟨b, off, none⟩ ∧ b < B ∧ l[k]? = some x ∧ w.cell? ⟨b, off + k, none⟩ = some (.pointer (some ⟨g x, 0, none⟩)) := by
  have hl := h.plen
  obtain ⟨b, off, e, hb, hc⟩ := h.2 (by omega)
  obtain ⟨x, hx⟩ : ∃ x, l[k]? = some x := ⟨_, List.getElem?_eq_getElem (by omega)⟩
  exact ⟨b, off, x, e, hb, hx, hc k _ (by rw [List.getElem?_map, hx]; rfl)⟩
set_option maxHeartbeats 400000 in
theorem indexFunc_intB (A : Option Addr) (n cap : Nat) (h : List Int) (F : FuncId) (pre caps : Array Value) (p : Int → Bool) (w : World) (hr : Rd w w.heap.size 1 A n (cellsI h)) (hm : n ≤ 6000000000000)
    (hcall : ∀ (args : Array Value) (w : World), (callFunc F args).run Tryz.prog w = .ok (.enter F args) w)
    (hf : ∀ o ∈ h, ∀ w', Below w.heap.size w w' → Calls Tryz.prog F (pre ++ #[.int .i64 o] ++ caps) w' fun e w'' => e = .returned (.bool (p o)) ∧ Below w'.heap.size w' w'') :
    Calls Tryz.prog 91 #[.slice A n cap, .func (.func F) pre caps] w fun e w' => e = .returned (.int .i64 (idxGo p 0 h)) ∧ Below w.heap.size w w' := by
  have hl := hr.ilen
  have HL := Lib.hid hl
  have HF := Lib.hid hf
  clear hl hf
  go_enter Tryz.func91, Tryz.ntmps91
  go_wp2
  go_loopw [8] (fun i wr => ∃ k : Nat, k ≤ n ∧ i = .int .i64 k ∧ Hid (idxGo p 0 h = idxGo p k (h.drop k)) ∧ Below w.heap.size w wr) (fun i _ => n - (intOf i).toNat)
  case atStart => exact ⟨0, Nat.zero_le _, rfl, rfl, Below.refl _ _⟩
  case round =>
    obtain ⟨k, hk, rfl, HE, hbw⟩ := hrel
    by_cases hlt : k < n
    · obtain ⟨b, off, o, he, hb, ho, c0⟩ := (hr.below hbw).int (k := k) (by omega)
      cases he
      have HO := Lib.hid (drop_at ho)
      have hmem := Lib.hid (List.mem_of_getElem? ho)
      clear ho
      cases hP : p o
      · have HE2 : Hid (idxGo p 0 h = idxGo p (k + 1) (h.drop (k + 1))) := Lib.hid (by rw [HE.out, HO.out]; simp [idxGo, hP])
        go_wp2_with fail
        refine (HF.out o hmem.out wr hbw).mono ?_
        rintro e w1 ⟨rfl, hb1⟩
        rw [hP]
        go_wp2
        go_roundw
        case rel => exact ⟨k + 1, by omega, by go_num, HE2, hbw.trans (hb1.mono hbw.size)⟩
        case measure => simp [intOf]; omega
      · have HE2 : Hid (idxGo p 0 h = k) := Lib.hid (by rw [HE.out, HO.out]; simp [idxGo, hP])
        go_wp2_with fail
        refine (HF.out o hmem.out wr hbw).mono ?_
        rintro e w1 ⟨rfl, hb1⟩
        rw [hP]
        go_wp2
        go_ret
        exact ⟨ret_int HE2.out.symm, hbw.trans (hb1.mono hbw.size)⟩
    · have HE2 : Hid (idxGo p 0 h = -1) := Lib.hid (by rw [HE.out, drop_end (by rw [HL.out]; omega)]; rfl)
      go_wp2
      go_ret
      exact ⟨ret_int HE2.out.symm, hbw⟩
theorem containsFunc_intB (A : Option Addr) (n cap : Nat) (h : List Int) (F : FuncId) (pre caps : Array Value) (p : Int → Bool) (w : World) (hr : Rd w w.heap.size 1 A n (cellsI h)) (hm : n ≤ 6000000000000)
    (hcall : ∀ (args : Array Value) (w : World), (callFunc F args).run Tryz.prog w = .ok (.enter F args) w)
    (hf : ∀ o ∈ h, ∀ w', Below w.heap.size w w' → Calls Tryz.prog F (pre ++ #[.int .i64 o] ++ caps) w' fun e w'' => e = .returned (.bool (p o)) ∧ Below w'.heap.size w' w'') :
    Calls Tryz.prog 70 #[.slice A n cap, .func (.func F) pre caps] w fun e w' => e = .returned (.bool (h.any p)) ∧ Below w.heap.size w w' := by
  have C := indexFunc_intB A n cap h F pre caps p w hr hm hcall hf
  have HA := Lib.hid (idxGo_any p h)
  generalize idxGo p 0 h = v at *
  have HC := hide C
  clear C hf hcall
  go_enter Tryz.func70, Tryz.ntmps70
  go_wp2_with fail
  refine (unhide HC).mono ?_
  rintro e w1 ⟨rfl, hb1⟩
  go_wp2
  go_ret
  exact ⟨ret_bool HA.out, hb1⟩
set_option maxHeartbeats 400000 in
theorem indexFunc_deal (A : Option Addr) (n cap : Nat) (g : Int → Nat) (h : List Int) (F : FuncId) (caps : Array Value) (p : Int → Bool) (w : World) (hr : Rd w w.heap.size 1 A n (h.map fun t => .pointer (some ⟨g t, 0, none⟩))) (hm : n ≤ 6000000000000)
    (hcall : ∀ (args : Array Value) (w : World), (callFunc F args).run Tryz.prog w = .ok (.enter F args) w)
    (hf : ∀ o ∈ h, ∀ w', Below w.heap.size w w' → Calls Tryz.prog F (#[.pointer (some ⟨g o, 0, none⟩)] ++ caps) w' fun e w'' => e = .returned (.bool (p o)) ∧ Below w'.heap.size w' w'') :
    Calls Tryz.prog 103 #[.slice A n cap, .func (.func F) #[] caps] w fun e w' => e = .returned (.int .i64 (idxGo p 0 h)) ∧ Below w.heap.size w w' := by
  have hl := hr.plen
  have HL := Lib.hid hl
  have HF := Lib.hid hf
  clear hl hf
  go_enter Tryz.func103, Tryz.ntmps103
  go_wp2
  go_loopw [8] (fun i wr => ∃ k : Nat, k ≤ n ∧ i = .int .i64 k ∧ Hid (idxGo p 0 h = idxGo p k (h.drop k)) ∧ Below w.heap.size w wr) (fun i _ => n - (intOf i).toNat)
  case atStart => exact ⟨0, Nat.zero_le _, rfl, rfl, Below.refl _ _⟩
  case round =>
    obtain ⟨k, hk, rfl, HE, hbw⟩ := hrel
    by_cases hlt : k < n
    · obtain ⟨b, off, o, he, hb, ho, c0⟩ := (hr.below hbw).ptr (k := k) (by omega)
      cases he
      have HO := Lib.hid (drop_at ho)
      have hmem := Lib.hid (List.mem_of_getElem? ho)
      clear ho
      cases hP : p o
      · have HE2 : Hid (idxGo p 0 h = idxGo p (k + 1) (h.drop (k + 1))) := Lib.hid (by rw [HE.out, HO.out]; simp [idxGo, hP])
        go_wp2_with fail
        refine (HF.out o hmem.out wr hbw).mono ?_
        rintro e w1 ⟨rfl, hb1⟩
        rw [hP]
        go_wp2
        go_roundw
        case rel => exact ⟨k + 1, by omega, by go_num, HE2, hbw.trans (hb1.mono hbw.size)⟩
        case measure => simp [intOf]; omega
      · have HE2 : Hid (idxGo p 0 h = k) := Lib.hid (by rw [HE.out, HO.out]; simp [idxGo, hP])
        go_wp2_with fail
        refine (HF.out o hmem.out wr hbw).mono ?_
        rintro e w1 ⟨rfl, hb1⟩
        rw [hP]
        go_wp2
        go_ret
        exact ⟨ret_int HE2.out.symm, hbw.trans (hb1.mono hbw.size)⟩
    · have HE2 : Hid (idxGo p 0 h = -1) := Lib.hid (by rw [HE.out, drop_end (by rw [HL.out]; omega)]; rfl)
      go_wp2
      go_ret
      exact ⟨ret_int HE2.out.symm, hbw⟩
theorem containsFunc_deal (A : Option Addr) (n cap : Nat) (g : Int → Nat) (h : List Int) (F : FuncId) (caps : Array Value) (p : Int → Bool) (w : World) (hr : Rd w w.heap.size 1 A n (h.map fun t => .pointer (some ⟨g t, 0, none⟩))) (hm : n ≤ 6000000000000)
    (hcall : ∀ (args : Array Value) (w : World), (callFunc F args).run Tryz.prog w = .ok (.enter F args) w)
    (hf : ∀ o ∈ h, ∀ w', Below w.heap.size w w' → Calls Tryz.prog F (#[.pointer (some ⟨g o, 0, none⟩)] ++ caps) w' fun e w'' => e = .returned (.bool (p o)) ∧ Below w'.heap.size w' w'') :
    Calls Tryz.prog 68 #[.slice A n cap, .func (.func F) #[] caps] w fun e w' => e = .returned (.bool (h.any p)) ∧ Below w.heap.size w w' := by
  have C := indexFunc_deal A n cap g h F caps p w hr hm hcall hf
  have HA := Lib.hid (idxGo_any p h)
  generalize idxGo p 0 h = v at *
  have HC := hide C
  clear C hf hcall
  go_enter Tryz.func68, Tryz.ntmps68
  go_wp2_with fail
  refine (unhide HC).mono ?_
  rintro e w1 ⟨rfl, hb1⟩
  go_wp2
  go_ret
  exact ⟨ret_bool HA.out, hb1⟩

/-- The types of this program's runs. -/
def vT (tk tl : TypeId) : VTy := ⟨88, 50, 3, 84, tk, tl⟩

/-! ### Since. -/
theorem call_since1 (args : Array Value) (w : World) : (callFunc 69 args).run Tryz.prog w = .ok (.enter 69 args) w := by kernel_rfl
set_option maxHeartbeats 1000000 in
theorem since1_any (g3 g5 gd : Nat) (c0 c1 ended began : Int) (c3 c5 : Value) (A : Option Addr) (n c : Nat) (l : List Int) (F : FuncId) (pre caps : Array Value) (p : Int → Bool) (w : World) (h3 : Blk w g3 3 [.int .i64 began]) (t5 : TypeId) (h5 : Blk w g5 t5 [.func (.func F) pre caps])
    (hd : Blk w gd 88 [.int .i64 c0, .int .i64 c1, .int .i64 ended, c3, .slice A n c, c5]) (hr : Rd w w.heap.size 1 A n (cellsI l)) (hm : n ≤ 1000000)
    (hcall : ∀ (args : Array Value) (w : World), (callFunc F args).run Tryz.prog w = .ok (.enter F args) w)
    (hf : ∀ o ∈ l, ∀ w', Below w.heap.size w w' → Calls Tryz.prog F (pre ++ #[.int .i64 o] ++ caps) w' fun e w'' => e = .returned (.bool (p o)) ∧ Below w'.heap.size w' w'') :
    Calls Tryz.prog 69 #[.pointer (some ⟨gd, 0, none⟩), .pointer (some ⟨g3, 0, none⟩), .pointer (some ⟨g5, 0, none⟩)] w fun e w' => e = .returned (.bool (decide (ended > began) && l.any p)) ∧ Below w.heap.size w w' := by
  have e0 := h3.cellS (i := 0) (v := .int .i64 began) rfl
  have e1 := h5.cellS (i := 0) (v := .func (.func F) pre caps) rfl
  have e2 := hd.cellS (i := 2) (v := .int .i64 ended) rfl
  have e4 := hd.cellS (i := 4) (v := .slice A n c) rfl
  by_cases hgt : ended > began
  · have C := hide (containsFunc_intB A n c l F pre caps p w.drew hr (by omega) hcall (fun o ho w' hb => hf o ho w' (((Below.refl w.heap.size w).drew).trans hb)))
    have t1 : decide (ended > began) = true := decide_eq_true hgt
    rw [t1, Bool.true_and]
    generalize l.any p = q at *
    have hb0 : Below w.heap.size w w.drew := (Below.refl _ _).drew
    have h3' := hide h3
    have h5' := hide h5
    have hd' := hide hd
    clear hcall hf hr h3 h5 hd hgt
    go_enter Tryz.func69, Tryz.ntmps69
    go_wp2
    go_region_held3 (fun w' => w'.cell? ⟨g3, 0, none⟩ = some (.int .i64 began) ∧ w'.cell? ⟨g5, 0, none⟩ = some (.func (.func F) pre caps) ∧ w'.cell? ⟨gd, 2, none⟩ = some (.int .i64 ended) ∧ w'.cell? ⟨gd, 4, none⟩ = some (.slice A n c)) (first | exact ⟨e0, e1, e2, e4⟩ | exact hcc | go_keep)
      (first | (go_at_call 70; (with_reducible refine (unhide C).mono ?_); rintro e w2 ⟨rfl, hb2⟩; have hbw2 := hb0.trans (hb2.mono (Nat.le_refl _)); have hcc : w2.cell? ⟨g3, 0, none⟩ = some (.int .i64 began) ∧ w2.cell? ⟨g5, 0, none⟩ = some (.func (.func F) pre caps) ∧ w2.cell? ⟨gd, 2, none⟩ = some (.int .i64 ended) ∧ w2.cell? ⟨gd, 4, none⟩ = some (.slice A n c) := ⟨((unhide h3').below hbw2 (unhide h3').lt).cellS rfl, ((unhide h5').below hbw2 (unhide h5').lt).cellS rfl, ((unhide hd').below hbw2 (unhide hd').lt).cellS rfl, ((unhide hd').below hbw2 (unhide hd').lt).cellS rfl⟩))
    go_wp2
    go_ret
    exact ⟨rfl, hbw2⟩
  · have t1 : decide (ended > began) = false := decide_eq_false hgt
    rw [t1, Bool.false_and]
    clear hcall hf hr h3 h5 hd hgt
    go_enter Tryz.func69, Tryz.ntmps69
    go_wp2
    go_quiet (fail)
    go_wp2
    go_ret
    exact ⟨rfl, below_drewN (Below.refl _ _) _⟩
/-- Since, in a run's heap. -/
theorem since_any {tk tl : TypeId} {lo : Nat} {s : VSt} {L : VLay} {tag : Nat → Int × Nat} {k0 : Nat} (w : World) (H : VHeap (vT tk tl) lo w s L tag) (hk : VOk k0 s) (hk0 : k0 ≤ 1000) (began : Int) (F : FuncId) (pre caps : Array Value) (p : Int → Bool)
    (hcall : ∀ (args : Array Value) (w : World), (callFunc F args).run Tryz.prog w = .ok (.enter F args) w)
    (hf : ∀ (o : Int) (w' : World), Below w.heap.size w w' → Calls Tryz.prog F (pre ++ #[.int .i64 o] ++ caps) w' fun e w'' => e = .returned (.bool (p o)) ∧ Below w'.heap.size w' w'') :
    Calls Tryz.prog 40 #[.int .i64 began, L.vd, .func (.func F) pre caps] w fun e w' => e = .returned (.bool (sinceD began (doneD s) p)) ∧ Below w.heap.size w w' := by
  obtain ⟨Ad, cd, hvd⟩ := own_slice H.done
  have HR : Hid (sinceD began (doneD s) p = s.dn.any fun t => decide (((dget s.ds t).getD ⟨t, 0, 0, [], [], []⟩).ended > began) && ((dget s.ds t).getD ⟨t, 0, 0, [], [], []⟩).wrote.any p) := Lib.hid (by
    unfold sinceD doneD
    rw [List.any_map]
    rfl)
  have hb1 : Below w.heap.size w ((w.alloc (.cells #[.int .i64 began] 3)).alloc (.cells #[.func (.func F) pre caps] 89)) := ((Below.refl _ _).alloc (Nat.le_refl _) _).alloc (by simp) _
  have g3 : Blk ((w.alloc (.cells #[.int .i64 began] 3)).alloc (.cells #[.func (.func F) pre caps] 89)) w.heap.size 3 [.int .i64 began] := (Blk.new w 3 [.int .i64 began]).alloc _
  have g5 : Blk ((w.alloc (.cells #[.int .i64 began] 3)).alloc (.cells #[.func (.func F) pre caps] 89)) (w.heap.size + 1) 89 [.func (.func F) pre caps] := by
    have := Blk.new (w.alloc (.cells #[.int .i64 began] 3)) 89 [.func (.func F) pre caps]
    simpa using this
  generalize hW : (w.alloc (.cells #[.int .i64 began] 3)).alloc (.cells #[.func (.func F) pre caps] 89) = W at hb1 g3 g5
  have HW := H.below hb1
  have C := hide (containsFunc_deal Ad s.dn.length cd L.g s.dn 69 #[.pointer (some ⟨w.heap.size, 0, none⟩), .pointer (some ⟨w.heap.size + 1, 0, none⟩)] (fun t => decide (((dget s.ds t).getD ⟨t, 0, 0, [], [], []⟩).ended > began) && ((dget s.ds t).getD ⟨t, 0, 0, [], [], []⟩).wrote.any p) W (by
      have := HW.done
      rw [hvd] at this
      exact rd_own this) (by have := hk.dn; omega) call_since1 (fun t ht w' hb => by
      obtain ⟨d, hd, hdt⟩ := List.mem_map.1 (H.sub t ht)
      have hg : dget s.ds t = some d := by rw [← hdt]; exact dget_mem H.nodup hd
      rw [hg, Option.getD_some]
      have hD := (HW.below hb).deals d hd
      obtain ⟨Aw, cw, hvw⟩ := own_slice hD.wrote
      have hB := hD.blk
      rw [hvw] at hB
      have hw := hD.wrote
      rw [hvw] at hw
      have hdok := hk.deals d hd
      have h1 := since1_any w.heap.size (w.heap.size + 1) (L.g d.tx) d.tx d.began d.ended began (L.vs d.tx) (L.vp d.tx) Aw d.wrote.length cw d.wrote F pre caps p w' (g3.below hb g3.lt) 89 (g5.below hb g5.lt) hB (rd_own hw) (by have := hdok.wrote; omega) hcall (fun o _ w2 hb2 => hf o w2 (hb1.trans ((hb.mono hb1.size).trans (hb2.mono (Nat.le_trans hb1.size hb.size)))))
      rw [hdt] at h1
      exact h1))
  rw [← HR.out] at C
  rw [hvd]
  have hbW := hb1
  clear hf hcall HW g3 g5 hb1 H hk hvd
  generalize sinceD began (doneD s) p = R at *
  subst hW
  go_enter Tryz.func40, Tryz.ntmps40
  go_wp2_with fail
  refine (unhide C).mono ?_
  rintro e w2 ⟨rfl, hb2⟩
  go_wp2
  go_ret
  exact ⟨rfl, hbW.trans (hb2.mono hbW.size)⟩
end Go.Proofs.YtmehghkpghbpjaaGreat


namespace Go.Proofs.YtmehghkpghbpjaaGreat
open Go.RowKit

structure PSt (tk tl : TypeId) (w0 w : World) (gm gl : Nat) (temps : List (Nat × TypeId × List Value)) (s : VSt) (L : VLay) (tag : Nat → Int × Nat) : Prop where
  heap : VHeap (vT tk tl) w0.heap.size w s L tag
  gm : L.gm = gm
  gl : L.gl = gl
  temps : ∀ x ∈ temps, Blk w x.1 x.2.1 x.2.2 ∧ tag x.1 = (0, 9)
  old : ∀ b, b < w0.heap.size → tag b = (0, 9)
  below : Below w0.heap.size w0 w
  kp : L.kp.map (·.1) = if tk = tl then none else some w0.heap.size
def updL {α : Type} (f : Int → α) (t : Int) (x : α) : Int → α := fun u => if u = t then x else f u
theorem updL_self {α : Type} (f : Int → α) (t : Int) (x : α) : updL f t x t = x := if_pos rfl
theorem updL_ne {α : Type} (f : Int → α) {t u : Int} (x : α) (h : u ≠ t) : updL f t x u = f u := if_neg h
section
variable {tk tl : TypeId} {w0 w w' w1 w2 w3 w4 : World} {gm gl : Nat} {temps : List (Nat × TypeId × List Value)} {s s' : VSt} {L L' : VLay} {tag tag' : Nat → Int × Nat} {S : Int × Nat → Prop}
theorem PSt.step (P : PSt tk tl w0 w gm gl temps s L tag) (hb : But w.heap.size tag S w w') (hS : ¬ S (0, 9)) (ht : ∀ k, k < w.heap.size → tag' k = tag k) (H : VHeap (vT tk tl) w0.heap.size w' s' L' tag') (hgm : L'.gm = L.gm) (hgl : L'.gl = L.gl) (hkp : L'.kp.map (·.1) = L.kp.map (·.1)) : PSt tk tl w0 w' gm gl temps s' L' tag' :=
  ⟨H, hgm.trans P.gm, hgl.trans P.gl, fun x hx => by
    obtain ⟨h1, h2⟩ := P.temps x hx
    exact ⟨h1.but hb (by rw [h2]; exact hS), by rw [ht _ h1.lt]; exact h2⟩, fun b hb' => by rw [ht b (Nat.lt_of_lt_of_le hb' P.below.size)]; exact P.old b hb',
    P.below.trans ((hb.toBelow (B := w0.heap.size) P.below.size fun k hk => by rw [P.old k hk]; exact hS)), hkp.trans P.kp⟩
theorem PSt.below' (P : PSt tk tl w0 w gm gl temps s L tag) (hb : Below w.heap.size w w') : PSt tk tl w0 w' gm gl temps s L tag :=
  P.step (S := fun _ => False) (But.below hb (Nat.le_refl _)) id (fun _ _ => rfl) (P.heap.below hb) rfl rfl rfl
/-- A new block beside the run. -/
theorem PSt.temp (P : PSt tk tl w0 w gm gl temps s L tag) (t : TypeId) (cs : List Value) : ∃ tag', PSt tk tl w0 (w.alloc (.cells cs.toArray t)) gm gl ((w.heap.size, t, cs) :: temps) s L tag' := by
  have hb : Below w.heap.size w (w.alloc (.cells cs.toArray t)) := (Below.refl _ _).alloc (Nat.le_refl _) _
  have hb' : But w.heap.size tag (fun _ => False) w (w.alloc (.cells cs.toArray t)) := But.below hb (Nat.le_refl _)
  have ht : ∀ k, k < w.heap.size → (fun k => if k < w.heap.size then tag k else ((0 : Int), 9)) k = tag k := fun k hk => if_pos hk
  have H := P.heap
  have H2 : VHeap (vT tk tl) w0.heap.size (w.alloc (.cells cs.toArray t)) s L (fun k => if k < w.heap.size then tag k else ((0 : Int), 9)) := by
    have hl := H.done.lt
    exact ⟨H.map.but hb' id, (ht _ H.map.lt).trans H.mapM, H.mapL, H.last.but hb' id, (ht _ H.last.lt).trans H.lastM, H.lastL, own_butM H.done hb' fun _ _ => id, fun k hk => (ht _ (hl k hk).2).trans (H.doneM k hk),
      fun d hd => (H.deals d hd).but hb' (fun _ _ => id) ht rfl rfl rfl rfl, H.nodup, H.sub, H.keep.but hb' id id ht⟩
  have P2 := P.step hb' id ht H2 rfl rfl rfl
  refine ⟨_, ⟨P2.heap, P2.gm, P2.gl, fun x hx => ?_, P2.old, P2.below, P2.kp⟩⟩
  rcases List.mem_cons.1 hx with rfl | hx
  · exact ⟨Blk.new w t cs, if_neg (Nat.lt_irrefl _)⟩
  · exact P2.temps x hx
theorem PSt.drop {x : Nat × TypeId × List Value} (P : PSt tk tl w0 w gm gl (x :: temps) s L tag) : PSt tk tl w0 w gm gl temps s L tag :=
  ⟨P.heap, P.gm, P.gl, fun y hy => P.temps y (List.mem_cons_of_mem _ hy), P.old, P.below, P.kp⟩
/-- A deal begins. -/
theorem PSt.new (P : PSt tk tl w0 w1 gm gl temps s L tag) {tx : Int} {k : Nat} (hnew : dget s.ds tx = none) (hl6 : s.last.length = 6) (hb : Below w1.heap.size w1 w2) {v : Value} (ho : w2.ownsRow w1.heap.size 3 1 v 6 (cellsI s.last)) (hb3 : Below w2.heap.size w2 w3)
    (hd : Blk w3 w2.heap.size 88 [.int .i64 tx, .int .i64 k, .int .i64 (-1), .slice none 0 0, .slice none 0 0, v]) (hm : MapI w4 gm (putI (mapD L s.ds) tx (.pointer (some ⟨w2.heap.size, 0, none⟩)))) (hg : w3.grownBy w4 (some gm)) :
    ∃ L' tag', PSt tk tl w0 w4 gm gl temps (openS s k tx) L' tag' ∧ L'.vd = L.vd ∧ L'.g tx = w2.heap.size := by
  have H := P.heap
  obtain ⟨hbd, hnm⟩ := openS_new (k := k) hnew
  have hgm := H.map.lt
  rw [P.gm] at hgm
  have hz2 := hb.size
  have hz3 := hb3.size
  have hlo := P.below.size
  let tag' : Nat → Int × Nat := fun j => if j < w1.heap.size then tag j else if j = w2.heap.size then (tx, 5) else (tx, 8)
  let L' : VLay := { L with g := updL L.g tx w2.heap.size, vs := updL L.vs tx (.slice none 0 0), vw := updL L.vw tx (.slice none 0 0), vp := updL L.vp tx v }
  have ht : ∀ j, j < w1.heap.size → tag' j = tag j := fun j hj => if_pos hj
  have hbut : But w1.heap.size tag (fun m => m = (0, 0)) w1 w4 := (But.below (hb.trans (hb3.mono hz2)) (Nat.le_refl _)).trans (But.grown hg (by omega) fun j hj _ => by
    injection hj with e
    rw [← e, ← P.gm]; exact H.mapM)
  have hsn := (own_mono ho hlo)
  have hd' : DealH (vT tk tl) w0.heap.size w4 L' tag' (begD s k tx) := by
    rw [hbd]
    refine ⟨?_, ?_, ?_, ?_, ?_, ?_, ?_, ?_, ?_⟩
    · show Blk w4 (updL L.g tx w2.heap.size tx) 88 [.int .i64 tx, .int .i64 k, .int .i64 (-1), updL L.vs tx (.slice none 0 0) tx, updL L.vw tx (.slice none 0 0) tx, updL L.vp tx v tx]
      rw [updL_self, updL_self, updL_self, updL_self]
      exact hd.grown hg fun j hj => by injection hj; omega
    · show tag' (updL L.g tx w2.heap.size tx) = (tx, 5)
      rw [updL_self]
      show (if w2.heap.size < w1.heap.size then _ else _) = _
      rw [if_neg (by omega), if_pos rfl]
    · show _ ≤ updL L.g tx w2.heap.size tx
      rw [updL_self]; omega
    · show w4.ownsRow _ _ _ (updL L.vs tx (.slice none 0 0) tx) _ _
      rw [updL_self]; exact World.ownsRow_nil _ _ _ _
    · show ∀ j, (updL L.vs tx (.slice none 0 0) tx).ownBlock = some j → _
      rw [updL_self]; intro j hj; cases hj
    · show w4.ownsRow _ _ _ (updL L.vw tx (.slice none 0 0) tx) _ _
      rw [updL_self]; exact World.ownsRow_nil _ _ _ _
    · show ∀ j, (updL L.vw tx (.slice none 0 0) tx).ownBlock = some j → _
      rw [updL_self]; intro j hj; cases hj
    · show w4.ownsRow _ _ _ (updL L.vp tx v tx) s.last.length _
      rw [updL_self, hl6]
      refine (own_below hsn hb3 (Nat.le_refl _)).kept hg ?_
      cases hv : v.ownBlock with
      | none => exact .inl rfl
      | some j =>
        have := ho.lt j hv
        exact .inr (by simp; omega)
    · show ∀ j, (updL L.vp tx v tx).ownBlock = some j → _
      rw [updL_self]
      intro j hj
      have := ho.lt j hj
      show (if j < w1.heap.size then _ else _) = _
      rw [if_neg (by omega), if_neg (by omega)]
  have H4 : VHeap (vT tk tl) w0.heap.size w4 (openS s k tx) L' tag' := H.add (d' := begD s k tx) (by rw [begD_tx]; exact hnm) rfl rfl rfl rfl (fun t ht2 => by
    rw [begD_tx] at ht2
    exact ⟨updL_ne _ _ ht2, updL_ne _ _ ht2, updL_ne _ _ ht2, updL_ne _ _ ht2⟩) hbut ht (by
      rw [begD_tx, P.gm]
      show MapI w4 gm (putI (mapD L s.ds) tx (.pointer (some ⟨updL L.g tx w2.heap.size tx, 0, none⟩)))
      rw [updL_self]; exact hm) hd'
  exact ⟨L', tag', P.step hbut (by decide) ht H4 rfl rfl rfl, rfl, updL_self _ _ _⟩
/-- A deal saw. -/
theorem PSt.seen (P : PSt tk tl w0 w1 gm gl temps s L tag) {d : Dl} (hd : dget s.ds d.tx = some d) (q : HOp) (hb : Below w1.heap.size w1 w2) {v : Value} (ho : w3.ownsRow w0.heap.size 50 3 v (d.seen.length + 1) (cellsH (d.seen ++ [q]))) (hg : w2.grownBy w3 (L.vs d.tx).ownBlock) (hv : v.ownBlock = (L.vs d.tx).ownBlock ∨ v.ownBlock = some w2.heap.size) :
    ∃ L' tag', PSt tk tl w0 (w3.setCell ⟨L.g d.tx, 3, none⟩ v) gm gl temps { s with ds := dput s.ds { d with seen := d.seen ++ [q] } } L' tag' ∧ L'.vd = L.vd ∧ L'.g = L.g := by
  have H := P.heap
  have hD := H.deals d (dget_tx hd).2
  have hz2 := hb.size
  have hz3 := hg.size
  have hBl := hD.blk.lt
  have hsl := hD.seen.lt
  let tag' : Nat → Int × Nat := fun j => if j < w1.heap.size then tag j else (d.tx, 6)
  let L' : VLay := { L with vs := updL L.vs d.tx v }
  have ht : ∀ j, j < w1.heap.size → tag' j = tag j := fun j hj => if_pos hj
  have hbut : But w1.heap.size tag (fun m => m.1 = d.tx ∧ 5 ≤ m.2 ∧ m.2 < 9) w1 (w3.setCell ⟨L.g d.tx, 3, none⟩ v) :=
    ((But.below hb (Nat.le_refl _)).trans (But.grown hg hz2 fun j hj _ => by rw [hD.seenM j hj]; exact ⟨rfl, by simp, by simp⟩)).trans (But.set (fun _ => by show (tag (L.g d.tx)).1 = _ ∧ 5 ≤ (tag (L.g d.tx)).2 ∧ (tag (L.g d.tx)).2 < 9; rw [hD.blkM]; exact ⟨rfl, by simp, by simp⟩) v)
  have hvM : ∀ j, v.ownBlock = some j → tag' j = (d.tx, 6) := fun j hj => by
    rcases hv with h | h
    · rw [h] at hj
      rw [ht j (hsl j hj).2]; exact hD.seenM j hj
    · rw [h] at hj
      injection hj with e
      show (if j < w1.heap.size then _ else _) = _
      rw [if_neg (by omega)]
  have hbut3 : But w1.heap.size tag (fun m => m = (d.tx, 6)) w1 w3 := (But.below hb (Nat.le_refl _)).trans (But.grown hg hz2 fun j hj _ => hD.seenM j hj)
  have hB3 := hD.blk.but hbut3 (by rw [hD.blkM]; intro e; injection e with _ e; omega)
  have hne : ∀ {x : Value} {m : Nat}, m ≠ 5 → (∀ j, x.ownBlock = some j → tag' j = (d.tx, m)) → ∀ j, x.ownBlock = some j → j ≠ L.g d.tx := fun hm hx j hj e => by
    have := hx j hj
    rw [e, ht _ hBl, hD.blkM] at this
    injection this with _ e2
    exact hm e2.symm
  have hfar : ∀ {e : TypeId} {size : Nat} {x : Value} {n : Nat} {xs : List Value}, w3.ownsRow w0.heap.size e size x n xs → (∀ j, x.ownBlock = some j → j ≠ L.g d.tx) → (w3.setCell ⟨L.g d.tx, 3, none⟩ v).ownsRow w0.heap.size e size x n xs := fun h hx => own_butM (tag := fun j => ((j : Int), 0)) (S := fun m => m = ((L.g d.tx : Int), 0)) h (But.set (N := w3.heap.size) (tag := fun j => ((j : Int), 0)) (S := fun m => m = ((L.g d.tx : Int), 0)) (p := ⟨L.g d.tx, 3, none⟩) (fun _ => rfl) v) fun j hj e => hx j hj (by injection e; omega)
  have hd' : DealH (vT tk tl) w0.heap.size (w3.setCell ⟨L.g d.tx, 3, none⟩ v) L' tag' { d with seen := d.seen ++ [q] } := by
    refine ⟨?_, ?_, hD.blkL, ?_, ?_, ?_, ?_, ?_, ?_⟩
    · have := hB3.put 3 v
      show Blk _ (L.g d.tx) 88 [.int .i64 d.tx, .int .i64 d.began, .int .i64 d.ended, updL L.vs d.tx v d.tx, L.vw d.tx, L.vp d.tx]
      rw [updL_self]; exact this
    · rw [show L'.g d.tx = L.g d.tx from rfl, ht _ hBl]; exact hD.blkM
    · show (w3.setCell ⟨L.g d.tx, 3, none⟩ v).ownsRow _ _ _ (updL L.vs d.tx v d.tx) (d.seen ++ [q]).length _
      rw [updL_self, List.length_append]
      exact hfar ho (hne (by decide) hvM)
    · show ∀ j, (updL L.vs d.tx v d.tx).ownBlock = some j → _
      rw [updL_self]; exact hvM
    · have hM : ∀ j, (L.vw d.tx).ownBlock = some j → tag' j = (d.tx, 7) := fun j hj => by rw [ht j (hD.wrote.lt j hj).2]; exact hD.wroteM j hj
      exact hfar (own_butM hD.wrote hbut3 fun j hj => by rw [hD.wroteM j hj]; intro e; injection e with _ e; omega) (hne (by decide) hM)
    · intro j hj
      rw [ht j (hD.wrote.lt j hj).2]; exact hD.wroteM j hj
    · have hM : ∀ j, (L.vp d.tx).ownBlock = some j → tag' j = (d.tx, 8) := fun j hj => by rw [ht j (hD.snap.lt j hj).2]; exact hD.snapM j hj
      exact hfar (own_butM hD.snap hbut3 fun j hj => by rw [hD.snapM j hj]; intro e; injection e with _ e; omega) (hne (by decide) hM)
    · intro j hj
      rw [ht j (hD.snap.lt j hj).2]; exact hD.snapM j hj
  have H4 := H.put (d' := { d with seen := d.seen ++ [q] }) (L' := L') (List.mem_map.2 ⟨d, (dget_tx hd).2, rfl⟩) rfl rfl rfl rfl (fun _ => rfl) (fun t ht2 => ⟨updL_ne _ _ ht2, rfl, rfl⟩) hbut ht hd'
  exact ⟨L', tag', P.step hbut (fun e => absurd e.2.2 (by decide)) ht H4 rfl rfl rfl, rfl, rfl⟩
/-- A deal wrote. -/
theorem PSt.wrote (P : PSt tk tl w0 w1 gm gl temps s L tag) {d : Dl} (hd : dget s.ds d.tx = some d) (q : Int) (hb : Below w1.heap.size w1 w2) {v : Value} (ho : w3.ownsRow w0.heap.size 3 1 v (d.wrote.length + 1) (cellsI (d.wrote ++ [q]))) (hg : w2.grownBy w3 (L.vw d.tx).ownBlock) (hv : v.ownBlock = (L.vw d.tx).ownBlock ∨ v.ownBlock = some w2.heap.size) :
    ∃ L' tag', PSt tk tl w0 (w3.setCell ⟨L.g d.tx, 4, none⟩ v) gm gl temps { s with ds := dput s.ds { d with wrote := d.wrote ++ [q] } } L' tag' ∧ L'.vd = L.vd ∧ L'.g = L.g := by
  have H := P.heap
  have hD := H.deals d (dget_tx hd).2
  have hz2 := hb.size
  have hz3 := hg.size
  have hBl := hD.blk.lt
  have hsl := hD.wrote.lt
  let tag' : Nat → Int × Nat := fun j => if j < w1.heap.size then tag j else (d.tx, 7)
  let L' : VLay := { L with vw := updL L.vw d.tx v }
  have ht : ∀ j, j < w1.heap.size → tag' j = tag j := fun j hj => if_pos hj
  have hbut : But w1.heap.size tag (fun m => m.1 = d.tx ∧ 5 ≤ m.2 ∧ m.2 < 9) w1 (w3.setCell ⟨L.g d.tx, 4, none⟩ v) :=
    ((But.below hb (Nat.le_refl _)).trans (But.grown hg hz2 fun j hj _ => by rw [hD.wroteM j hj]; exact ⟨rfl, by simp, by simp⟩)).trans (But.set (fun _ => by show (tag (L.g d.tx)).1 = _ ∧ 5 ≤ (tag (L.g d.tx)).2 ∧ (tag (L.g d.tx)).2 < 9; rw [hD.blkM]; exact ⟨rfl, by simp, by simp⟩) v)
  have hvM : ∀ j, v.ownBlock = some j → tag' j = (d.tx, 7) := fun j hj => by
    rcases hv with h | h
    · rw [h] at hj
      rw [ht j (hsl j hj).2]; exact hD.wroteM j hj
    · rw [h] at hj
      injection hj with e
      show (if j < w1.heap.size then _ else _) = _
      rw [if_neg (by omega)]
  have hbut3 : But w1.heap.size tag (fun m => m = (d.tx, 7)) w1 w3 := (But.below hb (Nat.le_refl _)).trans (But.grown hg hz2 fun j hj _ => hD.wroteM j hj)
  have hB3 := hD.blk.but hbut3 (by rw [hD.blkM]; intro e; injection e with _ e; omega)
  have hne : ∀ {x : Value} {m : Nat}, m ≠ 5 → (∀ j, x.ownBlock = some j → tag' j = (d.tx, m)) → ∀ j, x.ownBlock = some j → j ≠ L.g d.tx := fun hm hx j hj e => by
    have := hx j hj
    rw [e, ht _ hBl, hD.blkM] at this
    injection this with _ e2
    exact hm e2.symm
  have hfar : ∀ {e : TypeId} {size : Nat} {x : Value} {n : Nat} {xs : List Value}, w3.ownsRow w0.heap.size e size x n xs → (∀ j, x.ownBlock = some j → j ≠ L.g d.tx) → (w3.setCell ⟨L.g d.tx, 4, none⟩ v).ownsRow w0.heap.size e size x n xs := fun h hx => own_butM (tag := fun j => ((j : Int), 0)) (S := fun m => m = ((L.g d.tx : Int), 0)) h (But.set (N := w3.heap.size) (tag := fun j => ((j : Int), 0)) (S := fun m => m = ((L.g d.tx : Int), 0)) (p := ⟨L.g d.tx, 4, none⟩) (fun _ => rfl) v) fun j hj e => hx j hj (by injection e; omega)
  have hd' : DealH (vT tk tl) w0.heap.size (w3.setCell ⟨L.g d.tx, 4, none⟩ v) L' tag' { d with wrote := d.wrote ++ [q] } := by
    refine ⟨?_, ?_, hD.blkL, ?_, ?_, ?_, ?_, ?_, ?_⟩
    · have := hB3.put 4 v
      show Blk _ (L.g d.tx) 88 [.int .i64 d.tx, .int .i64 d.began, .int .i64 d.ended, L.vs d.tx, updL L.vw d.tx v d.tx, L.vp d.tx]
      rw [updL_self]; exact this
    · rw [show L'.g d.tx = L.g d.tx from rfl, ht _ hBl]; exact hD.blkM
    · have hM : ∀ j, (L.vs d.tx).ownBlock = some j → tag' j = (d.tx, 6) := fun j hj => by rw [ht j (hD.seen.lt j hj).2]; exact hD.seenM j hj
      exact hfar (own_butM hD.seen hbut3 fun j hj => by rw [hD.seenM j hj]; intro e; injection e with _ e; omega) (hne (by decide) hM)
    · intro j hj
      rw [ht j (hD.seen.lt j hj).2]; exact hD.seenM j hj
    · show (w3.setCell ⟨L.g d.tx, 4, none⟩ v).ownsRow _ _ _ (updL L.vw d.tx v d.tx) (d.wrote ++ [q]).length _
      rw [updL_self, List.length_append]
      exact hfar ho (hne (by decide) hvM)
    · show ∀ j, (updL L.vw d.tx v d.tx).ownBlock = some j → _
      rw [updL_self]; exact hvM
    · have hM : ∀ j, (L.vp d.tx).ownBlock = some j → tag' j = (d.tx, 8) := fun j hj => by rw [ht j (hD.snap.lt j hj).2]; exact hD.snapM j hj
      exact hfar (own_butM hD.snap hbut3 fun j hj => by rw [hD.snapM j hj]; intro e; injection e with _ e; omega) (hne (by decide) hM)
    · intro j hj
      rw [ht j (hD.snap.lt j hj).2]; exact hD.snapM j hj
  have H4 := H.put (d' := { d with wrote := d.wrote ++ [q] }) (L' := L') (List.mem_map.2 ⟨d, (dget_tx hd).2, rfl⟩) rfl rfl rfl rfl (fun _ => rfl) (fun t ht2 => ⟨rfl, updL_ne _ _ ht2, rfl⟩) hbut ht hd'
  exact ⟨L', tag', P.step hbut (fun e => absurd e.2.2 (by decide)) ht H4 rfl rfl rfl, rfl, rfl⟩
/-- A deal ends. -/
theorem PSt.ended (P : PSt tk tl w0 w1 gm gl temps s L tag) {d : Dl} (hd : dget s.ds d.tx = some d) (x : Int) : PSt tk tl w0 (w1.setCell ⟨L.g d.tx, 2, none⟩ (.int .i64 x)) gm gl temps { s with ds := dput s.ds { d with ended := x } } L tag := by
  have H := P.heap
  have hD := H.deals d (dget_tx hd).2
  have hBl := hD.blk.lt
  have hbut : But w1.heap.size tag (fun m => m = (d.tx, 5)) w1 (w1.setCell ⟨L.g d.tx, 2, none⟩ (.int .i64 x)) := But.set (fun _ => hD.blkM) _
  have hbut2 : But w1.heap.size tag (fun m => m.1 = d.tx ∧ 5 ≤ m.2 ∧ m.2 < 9) w1 (w1.setCell ⟨L.g d.tx, 2, none⟩ (.int .i64 x)) := hbut.mono fun m hm => by rw [hm]; exact ⟨rfl, by simp, by simp⟩
  have hd' : DealH (vT tk tl) w0.heap.size (w1.setCell ⟨L.g d.tx, 2, none⟩ (.int .i64 x)) L tag { d with ended := x } :=
    ⟨hD.blk.put 2 (.int .i64 x), hD.blkM, hD.blkL, own_butM hD.seen hbut fun j hj => by rw [hD.seenM j hj]; intro e; injection e with _ e; omega, hD.seenM, own_butM hD.wrote hbut fun j hj => by rw [hD.wroteM j hj]; intro e; injection e with _ e; omega, hD.wroteM, own_butM hD.snap hbut fun j hj => by rw [hD.snapM j hj]; intro e; injection e with _ e; omega, hD.snapM⟩
  have H4 := H.put (d' := { d with ended := x }) (L' := L) (List.mem_map.2 ⟨d, (dget_tx hd).2, rfl⟩) rfl rfl rfl rfl (fun _ => rfl) (fun t ht2 => ⟨rfl, rfl, rfl⟩) hbut2 (fun _ _ => rfl) hd'
  exact P.step hbut2 (fun e => absurd e.2.2 (by decide)) (fun _ _ => rfl) H4 rfl rfl rfl
/-- A deal is done. -/
theorem PSt.doneAdd (P : PSt tk tl w0 w1 gm gl temps s L tag) {t : Int} (hex : t ∈ s.ds.map (·.tx)) (hb : Below w1.heap.size w1 w2) {v : Value} (ho : w3.ownsRow w0.heap.size 84 1 v (s.dn.length + 1) (s.dn.map (ptrD L) ++ [ptrD L t])) (hg : w2.grownBy w3 L.vd.ownBlock) (hv : v.ownBlock = L.vd.ownBlock ∨ v.ownBlock = some w2.heap.size) :
    ∃ tag', PSt tk tl w0 w3 gm gl temps { s with dn := s.dn ++ [t] } { L with vd := v } tag' := by
  have H := P.heap
  have hz2 := hb.size
  have hl := H.done.lt
  have ht : ∀ j, j < w1.heap.size → (fun j => if j < w1.heap.size then tag j else ((0 : Int), 2)) j = tag j := fun j hj => if_pos hj
  have hbut : But w1.heap.size tag (fun m => m = (0, 2)) w1 w3 := (But.below hb (Nat.le_refl _)).trans (But.grown hg hz2 fun j hj _ => H.doneM j hj)
  have hM : ∀ k, v.ownBlock = some k → (fun j => if j < w1.heap.size then tag j else ((0 : Int), 2)) k = (0, 2) := fun k hk => by
    rcases hv with h | h
    · rw [h] at hk
      exact (ht k (hl k hk).2).trans (H.doneM k hk)
    · rw [h] at hk
      injection hk with e
      exact if_neg (by omega)
  exact ⟨_, P.step hbut (by decide) ht (H.doneAdd hex hbut ht ho hM) rfl rfl rfl⟩
/-- An item was written. -/
theorem PSt.lastSet (P : PSt tk tl w0 w1 gm gl temps s L tag) (j : Nat) (x : Int) : PSt tk tl w0 (w1.setCell ⟨gl, j, none⟩ (.int .i64 x)) gm gl temps { s with last := s.last.set j x } L tag := by
  have H := P.heap
  have hbut : But w1.heap.size tag (fun m => m = (0, 1)) w1 (w1.setCell ⟨gl, j, none⟩ (.int .i64 x)) := But.set (fun _ => by show tag gl = _; rw [← P.gl]; exact H.lastM) _
  have hl := H.last.put j (.int .i64 x)
  have e : (cellsI s.last).set j (.int .i64 x) = cellsI (s.last.set j x) := by unfold cellsI; rw [List.map_set]
  rw [e, P.gl] at hl
  exact P.step hbut (by decide) (fun _ _ => rfl) (H.lastSet hbut (by rw [P.gl]; exact hl)) rfl rfl rfl
end
end Go.Proofs.YtmehghkpghbpjaaGreat
