
/-
  CONTRACTS of faces.ended, Open and its test.
  CONTRACTS of graph.Check, named, Sort, Order; slices.IndexFunc, ContainsFunc at edges, IndexFunc at numbers, Contains at numbers.
-/
import Derived.Test.YtmehghkpghbpjaaGreatQ3
import Derived.Test.YtmehghkpghbpjaaGreatQ1
import Derived.BigQuiet
import Derived.Handy
import Derived.Test.YtmehghkpghbpjaaGreatQ8
import Derived.Test.YtmehghkpghbpjaaGreatQ7

namespace Go.Proofs.YtmehghkpghbpjaaGreat
open Go.RowKit

def endedGo (es : List Int) : List HOp → List Int
  | [] => es
  | o :: t => endedGo (if endsB o then es.set o.tx.toNat o.what else es) t
def endedF (h : List HOp) : List Int := endedGo (List.replicate 7 0) h
theorem endedGo_length (es : List Int) (h : List HOp) : (endedGo es h).length = es.length := by
  induction h generalizing es with
  | nil => rfl
  | cons o t ih => rw [endedGo, ih]; split <;> simp
theorem endedF_length (h : List HOp) : (endedF h).length = 7 := by simp [endedF, endedGo_length]
theorem list7 {α : Type} {l : List α} (h : l.length = 7) : ∃ a b c d e f g, l = [a, b, c, d, e, f, g] := by
  match l, h with
  | [a, b, c, d, e, f, g], _ => exact ⟨a, b, c, d, e, f, g, rfl⟩

def arr7 (l : List Int) : Value := .agg #[.int .i64 (l.getD 0 0), .int .i64 (l.getD 1 0), .int .i64 (l.getD 2 0), .int .i64 (l.getD 3 0), .int .i64 (l.getD 4 0), .int .i64 (l.getD 5 0), .int .i64 (l.getD 6 0)]

/-! ### Open. -/
def openT (es : List Int) (x : HOp) (what : Int) (o : HOp) : Bool := decide (o.what = what ∧ o.item = x.item ∧ o.tx ≠ x.tx ∧ es.getD o.tx.toNat 0 = 0)
def openB (pre : List HOp) (x : HOp) (what : Int) : Bool := pre.any (openT (endedF pre) x what)

/-- The four places that the test has caught. -/
structure OpenAt (w : World) (gw gh gi ge : Nat) (A : Option Addr) (n cap : Nat) (h : List HOp) (i : Nat) (what : Int) (es : List Int) : Prop where
  what : w.cell? ⟨gw, 0, none⟩ = some (.int .i64 what)
  hist : w.cell? ⟨gh, 0, none⟩ = some (.slice A n cap)
  idx : w.cell? ⟨gi, 0, none⟩ = some (.int .i64 i)
  ends : ∀ k, k < 7 → w.cell? ⟨ge, k, none⟩ = some (.int .i64 (es.getD k 0))
theorem OpenAt.below {w w' : World} {gw gh gi ge : Nat} {A : Option Addr} {n cap : Nat} {h : List HOp} {i : Nat} {what : Int} {es : List Int} {B : Nat} (H : OpenAt w gw gh gi ge A n cap h i what es) (hb : Below B w w') (h1 : gw < B) (h2 : gh < B) (h3 : gi < B) (h4 : ge < B) : OpenAt w' gw gh gi ge A n cap h i what es :=
  ⟨(hb.cell (p := ⟨gw, 0, none⟩) h1).trans H.what, (hb.cell (p := ⟨gh, 0, none⟩) h2).trans H.hist, (hb.cell (p := ⟨gi, 0, none⟩) h3).trans H.idx, fun k hk => (hb.cell (p := ⟨ge, k, none⟩) h4).trans (H.ends k hk)⟩

theorem Rd.take {w : World} {B n i : Nat} {A : Option Addr} {h : List HOp} (hr : Rd w B 3 A n (cellsH h)) (hi : i ≤ n) : Rd w B 3 A i (cellsH (h.take i)) := by
  have hl := hr.hlen
  refine ⟨by rw [cellsH_length, List.length_take]; omega, fun hp => ?_⟩
  obtain ⟨b, off, e, hb, hc⟩ := hr.2 (by omega)
  refine ⟨b, off, e, hb, fun j u hu => hc j u ?_⟩
  rw [← cellsH_take, List.getElem?_take] at hu
  split at hu
  · exact hu
  · cases hu
theorem idxGo_any {α : Type} (p : α → Bool) (h : List α) : decide (0 ≤ idxGo p 0 h) = h.any p := by
  rcases idxGo_spec p 0 h with ⟨h1, h2⟩ | ⟨i, o, h1, h2, h3, h4⟩
  · rw [h2]
    have : h.any p = false := by rw [List.any_eq_false]; intro x hx; simp [h1 x hx]
    rw [this]; rfl
  · rw [h4]
    have : h.any p = true := List.any_eq_true.2 ⟨o, List.mem_of_getElem? h1, h2⟩
    rw [this]; simp
end Go.Proofs.YtmehghkpghbpjaaGreat


namespace Go.Proofs.YtmehghkpghbpjaaGreat
open Go.RowKit Go.Shelf

def eVal (e : Int × Int) : Value := .agg #[.int .i64 e.1, .int .i64 e.2]
set_option maxHeartbeats 400000 in
theorem indexFunc_edge (A : Option Addr) (n cap : Nat) (h : List (Int × Int)) (F : FuncId) (caps : Array Value) (p : (Int × Int) → Bool) (w : World) (hr : Rd w w.heap.size 2 A n (dcells h)) (hm : n ≤ 9000000000000)
    (hcall : ∀ (args : Array Value) (w : World), (callFunc F args).run Tryz.prog w = .ok (.enter F args) w)
    (hf : ∀ o ∈ h, ∀ w', Below w.heap.size w w' → Calls Tryz.prog F (#[eVal o] ++ caps) w' fun e w'' => e = .returned (.bool (p o)) ∧ Below w'.heap.size w' w'') :
    Calls Tryz.prog 128 #[.slice A n cap, .func (.func F) #[] caps] w fun e w' => e = .returned (.int .i64 (idxGo p 0 h)) ∧ Below w.heap.size w w' := by
  have hl := hr.dlen
  have HL := Lib.hid hl
  have HF := Lib.hid hf
  clear hl hf
  go_enter Tryz.func128, Tryz.ntmps128
  go_wp2
  go_loopw [8] (fun i wr => ∃ k : Nat, k ≤ n ∧ i = .int .i64 k ∧ Hid (idxGo p 0 h = idxGo p k (h.drop k)) ∧ Below w.heap.size w wr) (fun i _ => n - (intOf i).toNat)
  case atStart => exact ⟨0, Nat.zero_le _, rfl, rfl, Below.refl _ _⟩
  case round =>
    obtain ⟨k, hk, rfl, HE, hbw⟩ := hrel
    by_cases hlt : k < n
    · obtain ⟨b, off, o, he, hb, ho, c0, c1⟩ := (hr.below hbw).pr (k := k) (by omega)
      cases he
      have HO := Lib.hid (drop_at ho)
      have hmem := Lib.hid (List.mem_of_getElem? ho)
      clear ho
      cases hP : p o
      · have HE2 : Hid (idxGo p 0 h = idxGo p (k + 1) (h.drop (k + 1))) := Lib.hid (by rw [HE.out, HO.out]; simp [idxGo, hP])
        go_wp2_with fail
        refine (HF.out o hmem.out wr hbw).mono ?_
        rintro e w1 ⟨rfl, hb1⟩
        rw [hP]
        go_wp2
        go_roundw
        case rel => exact ⟨k + 1, by omega, by go_num, HE2, hbw.trans (hb1.mono hbw.size)⟩
        case measure => simp [intOf]; omega
      · have HE2 : Hid (idxGo p 0 h = k) := Lib.hid (by rw [HE.out, HO.out]; simp [idxGo, hP])
        go_wp2_with fail
        refine (HF.out o hmem.out wr hbw).mono ?_
        rintro e w1 ⟨rfl, hb1⟩
        rw [hP]
        go_wp2
        go_ret
        exact ⟨ret_int HE2.out.symm, hbw.trans (hb1.mono hbw.size)⟩
    · have HE2 : Hid (idxGo p 0 h = -1) := Lib.hid (by rw [HE.out, drop_end (by rw [HL.out]; omega)]; rfl)
      go_wp2
      go_ret
      exact ⟨ret_int HE2.out.symm, hbw⟩
theorem containsFunc_edge (A : Option Addr) (n cap : Nat) (h : List (Int × Int)) (F : FuncId) (caps : Array Value) (p : (Int × Int) → Bool) (w : World) (hr : Rd w w.heap.size 2 A n (dcells h)) (hm : n ≤ 9000000000000)
    (hcall : ∀ (args : Array Value) (w : World), (callFunc F args).run Tryz.prog w = .ok (.enter F args) w)
    (hf : ∀ o ∈ h, ∀ w', Below w.heap.size w w' → Calls Tryz.prog F (#[eVal o] ++ caps) w' fun e w'' => e = .returned (.bool (p o)) ∧ Below w'.heap.size w' w'') :
    Calls Tryz.prog 93 #[.slice A n cap, .func (.func F) #[] caps] w fun e w' => e = .returned (.bool (h.any p)) ∧ Below w.heap.size w w' := by
  have C := indexFunc_edge A n cap h F caps p w hr hm hcall hf
  have HA := Lib.hid (idxGo_any p h)
  generalize idxGo p 0 h = v at *
  have HC := hide C
  clear C hf hcall
  go_enter Tryz.func93, Tryz.ntmps93
  go_wp2_with fail
  refine (unhide HC).mono ?_
  rintro e w1 ⟨rfl, hb1⟩
  go_wp2
  go_ret
  exact ⟨ret_bool HA.out, hb1⟩
set_option maxHeartbeats 400000 in
theorem indexFunc_int (A : Option Addr) (n cap : Nat) (h : List Int) (F : FuncId) (caps : Array Value) (p : Int → Bool) (w : World) (hr : Rd w w.heap.size 1 A n (cellsI h)) (hm : n ≤ 6000000000000)
    (hcall : ∀ (args : Array Value) (w : World), (callFunc F args).run Tryz.prog w = .ok (.enter F args) w)
    (hf : ∀ o ∈ h, ∀ w', Below w.heap.size w w' → Calls Tryz.prog F (#[.int .i64 o] ++ caps) w' fun e w'' => e = .returned (.bool (p o)) ∧ Below w'.heap.size w' w'') :
    Calls Tryz.prog 91 #[.slice A n cap, .func (.func F) #[] caps] w fun e w' => e = .returned (.int .i64 (idxGo p 0 h)) ∧ Below w.heap.size w w' := by
  have hl := hr.ilen
  have HL := Lib.hid hl
  have HF := Lib.hid hf
  clear hl hf
  go_enter Tryz.func91, Tryz.ntmps91
  go_wp2
  go_loopw [8] (fun i wr => ∃ k : Nat, k ≤ n ∧ i = .int .i64 k ∧ Hid (idxGo p 0 h = idxGo p k (h.drop k)) ∧ Below w.heap.size w wr) (fun i _ => n - (intOf i).toNat)
  case atStart => exact ⟨0, Nat.zero_le _, rfl, rfl, Below.refl _ _⟩
  case round =>
    obtain ⟨k, hk, rfl, HE, hbw⟩ := hrel
    by_cases hlt : k < n
    · obtain ⟨b, off, o, he, hb, ho, c0⟩ := (hr.below hbw).int (k := k) (by omega)
      cases he
      have HO := Lib.hid (drop_at ho)
      have hmem := Lib.hid (List.mem_of_getElem? ho)
      clear ho
      cases hP : p o
      · have HE2 : Hid (idxGo p 0 h = idxGo p (k + 1) (h.drop (k + 1))) := Lib.hid (by rw [HE.out, HO.out]; simp [idxGo, hP])
        go_wp2_with fail
        refine (HF.out o hmem.out wr hbw).mono ?_
        rintro e w1 ⟨rfl, hb1⟩
        rw [hP]
        go_wp2
        go_roundw
        case rel => exact ⟨k + 1, by omega, by go_num, HE2, hbw.trans (hb1.mono hbw.size)⟩
        case measure => simp [intOf]; omega
      · have HE2 : Hid (idxGo p 0 h = k) := Lib.hid (by rw [HE.out, HO.out]; simp [idxGo, hP])
        go_wp2_with fail
        refine (HF.out o hmem.out wr hbw).mono ?_
        rintro e w1 ⟨rfl, hb1⟩
        rw [hP]
        go_wp2
        go_ret
        exact ⟨ret_int HE2.out.symm, hbw.trans (hb1.mono hbw.size)⟩
    · have HE2 : Hid (idxGo p 0 h = -1) := Lib.hid (by rw [HE.out, drop_end (by rw [HL.out]; omega)]; rfl)
      go_wp2
      go_ret
      exact ⟨ret_int HE2.out.symm, hbw⟩

theorem icontains_rd (A : Option Addr) (n c : Nat) (l : List Int) (x : Int) (w : World) (B : Nat) (hr : Rd w B 1 A n (cellsI l)) (hm : n ≤ 9223372036854775807) :
    Calls Tryz.prog 65 #[.slice A n c, .int .i64 x] w fun e w' => e = .returned (.bool (decide (x ∈ l))) ∧ w = w' := by
  have hl := hr.ilen
  rcases Nat.eq_zero_or_pos n with h0 | h0
  · subst h0
    have : l = [] := List.eq_nil_of_length_eq_zero hl
    subst this
    exact (Any.slices_Contains_int_empty Tryz.lContI A c x w).mono fun e w' ⟨he, hw⟩ => ⟨by rw [he]; simp, hw.symm⟩
  · obtain ⟨b, off, rfl, hb, hc⟩ := hr.2 h0
    refine (Any.slices_Contains_int Tryz.lContI b off n c l x w (by omega) hm (fun j hj => hc j _ (by rw [cellsI, List.getElem?_map, List.getElem?_eq_getElem hj]; simp [List.getD_eq_getElem?_getD, hj]))).mono fun e w' ⟨he, hw⟩ => ⟨?_, hw.symm⟩
    rw [he, List.take_of_length_le (by omega)]
    congr 2
    rw [Bool.eq_iff_iff, List.contains_iff_mem, decide_eq_true_iff]

/-! ### Check. -/
def badE (e : Int × Int) : Bool := !txB e.1 || !txB e.2
def checkG (E : List (Int × Int)) : Int := if 60 < E.length then 4 else if E.any badE then 1 else 0
/-! ### named. -/
def ends2 (E : List (Int × Int)) : List Int := E.flatMap fun e => [e.1, e.2]
def namedF (E : List (Int × Int)) : List Int := compL (sortI (ends2 E))
theorem ends2_snoc {E : List (Int × Int)} {k : Nat} {e : Int × Int} (h : E[k]? = some e) : ends2 (E.take (k + 1)) = ends2 (E.take k) ++ [e.1, e.2] := by
  rw [List.take_add_one, h]; simp [ends2]
theorem slt_ints : SlT Tryz.prog 28 3 1 8 := slt_int
end Go.Proofs.YtmehghkpghbpjaaGreat
