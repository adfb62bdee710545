
/-
  CONTRACTS of faces.ended, Open and its test.
  CONTRACTS of graph.Check, named, Sort, Order; slices.IndexFunc, ContainsFunc at edges, IndexFunc at numbers, Contains at numbers.
  CONTRACTS of history.Own, slices.Equal at ops, odds.SameDeals.
-/
import Derived.Test.YtaaahfbcpgdoiaaGreatDoorQ1
import Derived.Test.YtaaahfbcpgdoiaaGreatDoorQ7
import Derived.BigQuiet
import Derived.Handy
import Derived.Test.YtaaahfbcpgdoiaaGreatDoorQ6
import Derived.Test.YtaaahfbcpgdoiaaGreatDoorQ9

namespace Go.Proofs.YtaaahfbcpgdoiaaGreatDoor
open Go.RowKit

def endedGo (es : List Int) : List HOp → List Int
  | [] => es
  | o :: t => endedGo (if endsB o then es.set o.tx.toNat o.what else es) t
def endedF (h : List HOp) : List Int := endedGo (List.replicate 7 0) h
theorem endedGo_length (es : List Int) (h : List HOp) : (endedGo es h).length = es.length := by
  induction h generalizing es with
  | nil => rfl
  | cons o t ih => rw [endedGo, ih]; split <;> simp
theorem endedF_length (h : List HOp) : (endedF h).length = 7 := by simp [endedF, endedGo_length]
theorem list7 {α : Type} {l : List α} (h : l.length = 7) : ∃ a b c d e f g, l = [a, b, c, d, e, f, g] := by
  match l, h with
  | [a, b, c, d, e, f, g], _ => exact ⟨a, b, c, d, e, f, g, rfl⟩

def arr7 (l : List Int) : Value := .agg #[.int .i64 (l.getD 0 0), .int .i64 (l.getD 1 0), .int .i64 (l.getD 2 0), .int .i64 (l.getD 3 0), .int .i64 (l.getD 4 0), .int .i64 (l.getD 5 0), .int .i64 (l.getD 6 0)]

set_option maxHeartbeats 400000 in
theorem ended_any (A : Option Addr) (n cap : Nat) (h : List HOp) (i0 : Nat) (w : World) (hr : Rd w w.heap.size 3 A n (cellsH h)) (hm : n ≤ 1000000) (hcap : n ≤ cap) (hi : i0 ≤ n) (ht : ∀ o ∈ h, 1 ≤ o.tx ∧ o.tx ≤ 6) :
    Calls Tryz.prog 106 #[.slice A n cap, .int .i64 i0] w fun e w' => e = .returned (arr7 (endedF (h.take i0))) ∧ Below w.heap.size w w' := by
  have hl := hr.hlen
  have HL := Lib.hid hl
  have HT := Lib.hid ht
  have hi2 : i0 ≤ cap := by omega
  clear hl ht
  go_enter Tryz.func106, Tryz.ntmps106
  go_wp2
  go_loopw [12] (fun i wr => ∃ (k : Nat) (es : List Int), k ≤ i0 ∧ i = .int .i64 k ∧ es.length = 7 ∧ Blk wr (w.heap.size + 1) 197 (cellsI es) ∧ Blk wr w.heap.size 197 (cellsI (List.replicate 7 0)) ∧ Hid (endedF (h.take i0) = endedGo es ((h.take i0).drop k)) ∧ Below w.heap.size w wr)
    (fun i _ => i0 - (intOf i).toNat)
  case atStart => exact ⟨0, List.replicate 7 0, Nat.zero_le _, rfl, rfl, by simpa [cellsI] using Blk.new (w.alloc (.cells (cellsI (List.replicate 7 0)).toArray 197)) 197 (cellsI (List.replicate 7 0)), (Blk.new w 197 (cellsI (List.replicate 7 0))).alloc _, rfl, ((Below.refl _ _).alloc (Nat.le_refl _) _).alloc (by simp) _⟩
  case round =>
    obtain ⟨k, es, hk, rfl, hes, hB, hB0, HE, hbw⟩ := hrel
    have hBlt := hB.lt
    by_cases hlt : k < i0
    · obtain ⟨b, off, o, he, hb, ho, c0, c1, c2⟩ := (hr.below hbw).op (k := k) (by omega)
      cases he
      obtain ⟨h1, h2⟩ := HT.out o (List.mem_of_getElem? ho)
      obtain ⟨tx, what, item⟩ := o
      simp only at h1 h2 c0 c1 c2
      have HO : Hid ((h.take i0).drop k = ⟨tx, what, item⟩ :: (h.take i0).drop (k + 1)) := drop_at (by rw [List.getElem?_take, if_pos hlt]; exact ho)
      clear ho
      have hb' : b < wr.heap.size := by omega
      have hz : tx.toNat < 7 := by omega
      cases hE : endsB ⟨tx, what, item⟩
      · have HF : Hid (endedF (h.take i0) = endedGo es ((h.take i0).drop (k + 1))) := Lib.hid (by rw [HE.out, HO.out]; simp [endedGo, hE])
        go_wp2_with (go_at_call 62; refine (ends_any ⟨tx, what, item⟩ _).mono ?_; rintro e w1 ⟨rfl, hb1⟩; rw [hE]; obtain ⟨hc, hf⟩ := bcell hb1)
        have hbw2 : Below w.heap.size w w1 := (hbw.alloc (by omega) _).trans (hb1.mono (by simp; omega))
        go_roundw
        case rel => exact ⟨k + 1, es, by omega, by go_num, hes, (hB.alloc _).below hb1 (by simp; omega), (hB0.alloc _).below hb1 (by simp; omega), HF, hbw2⟩
        case measure => simp [intOf]; omega
      · have HF : Hid (endedF (h.take i0) = endedGo (es.set tx.toNat what) ((h.take i0).drop (k + 1))) := Lib.hid (by rw [HE.out, HO.out]; simp [endedGo, hE])
        obtain ⟨v0, hv0⟩ : ∃ v, es[tx.toNat]? = some v := ⟨_, List.getElem?_eq_getElem (by omega)⟩
        go_wp2_with (go_at_call 62; refine (ends_any ⟨tx, what, item⟩ _).mono ?_; rintro e w1 ⟨rfl, hb1⟩; rw [hE]; obtain ⟨hc, hf⟩ := bcell hb1; have hB1 := (hB.alloc _).below hb1 (by simp; omega); have d3 := hB1.cellS (i := tx.toNat) (v := .int .i64 v0) (by rw [cellsI, List.getElem?_map, hv0]; rfl); have d4 := hB1.frozen tx.toNat)
        have hbw2 : Below w.heap.size w w1 := (hbw.alloc (by omega) _).trans (hb1.mono (by simp; omega))
        have hB02 := (hB0.alloc (.cells #[.int .i64 tx, .int .i64 what, .int .i64 item] 91)).below hb1 (by simp; omega)
        go_roundw
        case rel => exact ⟨k + 1, es.set tx.toNat what, by omega, by go_num, by simp [hes], by rw [cellsI, List.map_set]; exact hB1.put _ _, hB02.far (p := ⟨w.heap.size + 1, tx.toNat, none⟩) (by simp) _, HF, hbw2.setCell (by simp) _⟩
        case measure => simp [intOf]; omega
    · have HF : Hid (es = endedF (h.take i0)) := Lib.hid (by rw [HE.out, drop_end (by rw [List.length_take]; omega)]; rfl)
      obtain ⟨x0, x1, x2, x3, x4, x5, x6, rfl⟩ := list7 hes
      have HF2 : Hid (arr7 (endedF (h.take i0)) = .agg #[.int .i64 x0, .int .i64 x1, .int .i64 x2, .int .i64 x3, .int .i64 x4, .int .i64 x5, .int .i64 x6]) := Lib.hid (by rw [← HF.out]; rfl)
      have y0 := hB.cellS (i := 0) (v := .int .i64 x0) rfl
      have y1 := hB.cellS (i := 1) (v := .int .i64 x1) rfl
      have y2 := hB.cellS (i := 2) (v := .int .i64 x2) rfl
      have y3 := hB.cellS (i := 3) (v := .int .i64 x3) rfl
      have y4 := hB.cellS (i := 4) (v := .int .i64 x4) rfl
      have y5 := hB.cellS (i := 5) (v := .int .i64 x5) rfl
      have y6 := hB.cellS (i := 6) (v := .int .i64 x6) rfl
      have z0 := hB0.cellS (i := 0) (v := .int .i64 0) rfl
      have z1 := hB0.cellS (i := 1) (v := .int .i64 0) rfl
      have z2 := hB0.cellS (i := 2) (v := .int .i64 0) rfl
      have z3 := hB0.cellS (i := 3) (v := .int .i64 0) rfl
      have z4 := hB0.cellS (i := 4) (v := .int .i64 0) rfl
      have z5 := hB0.cellS (i := 5) (v := .int .i64 0) rfl
      have z6 := hB0.cellS (i := 6) (v := .int .i64 0) rfl
      have g0 := hB0.frozen 0
      have g1 := hB0.frozen 1
      have g2 := hB0.frozen 2
      have g3 := hB0.frozen 3
      have g4 := hB0.frozen 4
      have g5 := hB0.frozen 5
      have g6 := hB0.frozen 6
      go_wp2
      have hR := ((((((hB0.put 0 (.int .i64 x0)).put 1 (.int .i64 x1)).put 2 (.int .i64 x2)).put 3 (.int .i64 x3)).put 4 (.int .i64 x4)).put 5 (.int .i64 x5)).put 6 (.int .i64 x6)
      have r0 := hR.cellS (i := 0) (v := .int .i64 x0) rfl
      have r1 := hR.cellS (i := 1) (v := .int .i64 x1) rfl
      have r2 := hR.cellS (i := 2) (v := .int .i64 x2) rfl
      have r3 := hR.cellS (i := 3) (v := .int .i64 x3) rfl
      have r4 := hR.cellS (i := 4) (v := .int .i64 x4) rfl
      have r5 := hR.cellS (i := 5) (v := .int .i64 x5) rfl
      have r6 := hR.cellS (i := 6) (v := .int .i64 x6) rfl
      refine bodyPost_ret (v := .agg #[.int .i64 x0, .int .i64 x1, .int .i64 x2, .int .i64 x3, .int .i64 x4, .int .i64 x5, .int .i64 x6]) (by simp [results, Tryz.results106, go_sem, r0, r1, r2, r3, r4, r5, r6]) rfl ?_
      exact ⟨by rw [HF2.out], ((((((hbw.setCell (Nat.le_refl _) _).setCell (Nat.le_refl _) _).setCell (Nat.le_refl _) _).setCell (Nat.le_refl _) _).setCell (Nat.le_refl _) _).setCell (Nat.le_refl _) _).setCell (Nat.le_refl _) _⟩

/-! ### Open. -/
def openT (es : List Int) (x : HOp) (what : Int) (o : HOp) : Bool := decide (o.what = what ∧ o.item = x.item ∧ o.tx ≠ x.tx ∧ es.getD o.tx.toNat 0 = 0)
def openB (pre : List HOp) (x : HOp) (what : Int) : Bool := pre.any (openT (endedF pre) x what)

/-- The four places that the test has caught. -/
structure OpenAt (w : World) (gw gh gi ge : Nat) (A : Option Addr) (n cap : Nat) (h : List HOp) (i : Nat) (what : Int) (es : List Int) : Prop where
  what : w.cell? ⟨gw, 0, none⟩ = some (.int .i64 what)
  hist : w.cell? ⟨gh, 0, none⟩ = some (.slice A n cap)
  idx : w.cell? ⟨gi, 0, none⟩ = some (.int .i64 i)
  ends : ∀ k, k < 7 → w.cell? ⟨ge, k, none⟩ = some (.int .i64 (es.getD k 0))
theorem OpenAt.below {w w' : World} {gw gh gi ge : Nat} {A : Option Addr} {n cap : Nat} {h : List HOp} {i : Nat} {what : Int} {es : List Int} {B : Nat} (H : OpenAt w gw gh gi ge A n cap h i what es) (hb : Below B w w') (h1 : gw < B) (h2 : gh < B) (h3 : gi < B) (h4 : ge < B) : OpenAt w' gw gh gi ge A n cap h i what es :=
  ⟨(hb.cell (p := ⟨gw, 0, none⟩) h1).trans H.what, (hb.cell (p := ⟨gh, 0, none⟩) h2).trans H.hist, (hb.cell (p := ⟨gi, 0, none⟩) h3).trans H.idx, fun k hk => (hb.cell (p := ⟨ge, k, none⟩) h4).trans (H.ends k hk)⟩

set_option maxHeartbeats 1000000 in
theorem open1_any (o x : HOp) (A : Option Addr) (n cap : Nat) (h : List HOp) (i : Nat) (what : Int) (es : List Int) (gw gh gi ge : Nat) (w : World) (hr : Rd w w.heap.size 3 A n (cellsH h)) (hx : h[i]? = some x) (ho : 1 ≤ o.tx ∧ o.tx ≤ 6)
    (H : OpenAt w gw gh gi ge A n cap h i what es) (h1 : gw < w.heap.size) (h2 : gh < w.heap.size) (h3 : gi < w.heap.size) (h4 : ge < w.heap.size) :
    Calls Tryz.prog 151 #[o.val, .pointer (some ⟨gw, 0, none⟩), .pointer (some ⟨gh, 0, none⟩), .pointer (some ⟨gi, 0, none⟩), .pointer (some ⟨ge, 0, none⟩)] w fun e w' => e = .returned (.bool (openT es x what o)) ∧ Below w.heap.size w w' := by
  obtain ⟨tx, wh, item⟩ := o
  obtain ⟨ho1, ho2⟩ := ho
  simp only at ho1 ho2
  have hin : i < n := by rw [← hr.hlen]; exact (List.getElem?_eq_some_iff.1 hx).1
  obtain ⟨b, off, x', rfl, hb, hx', d0, d1, d2⟩ := hr.op hin
  rw [hx] at hx'
  injection hx' with hx'
  subst hx'
  obtain ⟨xt, xw, xi⟩ := x
  simp only at d0 d1 d2
  have e0 := H.ends tx.toNat (by omega)
  have HB := Lib.hid (Below.alloc (Below.refl w.heap.size w) (Nat.le_refl _) (.cells #[.int .i64 tx, .int .i64 wh, .int .i64 item] 91))
  have hz : tx.toNat < 7 := by omega
  have k7 : (w.alloc (.cells #[.int .i64 tx, .int .i64 wh, .int .i64 item] 91)).cell? ⟨w.heap.size, 0, none⟩ = some (.int .i64 tx) := by simp [World.cell?_alloc_new]
  have k8 : (w.alloc (.cells #[.int .i64 tx, .int .i64 wh, .int .i64 item] 91)).cell? ⟨w.heap.size, 1, none⟩ = some (.int .i64 wh) := by simp [World.cell?_alloc_new]
  have k9 : (w.alloc (.cells #[.int .i64 tx, .int .i64 wh, .int .i64 item] 91)).cell? ⟨w.heap.size, 2, none⟩ = some (.int .i64 item) := by simp [World.cell?_alloc_new]
  have k0 := (HB.out.cell (p := ⟨b, off + i * 3, none⟩) hb).trans d0
  have k1 := (HB.out.cell (p := ⟨b, off + i * 3 + 1, none⟩) hb).trans d1
  have k2 := (HB.out.cell (p := ⟨b, off + i * 3 + 2, none⟩) hb).trans d2
  have k3 := (HB.out.cell (p := ⟨gw, 0, none⟩) h1).trans H.what
  have k4 := (HB.out.cell (p := ⟨gh, 0, none⟩) h2).trans H.hist
  have k5 := (HB.out.cell (p := ⟨gi, 0, none⟩) h3).trans H.idx
  have k6 := (HB.out.cell (p := ⟨ge, tx.toNat, none⟩) h4).trans e0
  generalize hv : es.getD tx.toNat 0 = v at *
  have HV := Lib.hid hv
  clear hv d0 d1 d2 e0 H hx hr hb h1 h2 h3 h4
  unfold HOp.val
  by_cases c1 : wh = what
  · by_cases c2 : item = xi
    · by_cases c3 : tx = xt
      · have HR : Hid (openT es ⟨xt, xw, xi⟩ what ⟨tx, wh, item⟩ = false) := Lib.hid (by simp [openT, c3])
        subst c1 c2 c3
        go_enter Tryz.func151, Tryz.ntmps151
        go_wp2
        generalize w.alloc (.cells #[.int .i64 _, .int .i64 _, .int .i64 _] 91) = w1 at *
        go_quiet (fail)
        go_wp2
        go_ret
        exact ⟨ret_bool HR.out.symm, below_drewN HB.out _⟩
      · have HR : Hid (openT es ⟨xt, xw, xi⟩ what ⟨tx, wh, item⟩ = (v == 0)) := Lib.hid (by rw [openT, HV.out, Bool.eq_iff_iff]; simp [c1, c2, c3])
        have c3' : (tx != xt) = true := by simpa using c3
        subst c1 c2
        go_enter Tryz.func151, Tryz.ntmps151
        go_wp2
        generalize w.alloc (.cells #[.int .i64 _, .int .i64 _, .int .i64 _] 91) = w1 at *
        go_quiet (fail)
        go_wp2
        go_ret
        exact ⟨ret_bool HR.out.symm, below_drewN HB.out _⟩
    · have HR : Hid (openT es ⟨xt, xw, xi⟩ what ⟨tx, wh, item⟩ = false) := Lib.hid (by simp [openT, c2])
      have c2' : (item == xi) = false := by simpa using c2
      subst c1
      go_enter Tryz.func151, Tryz.ntmps151
      go_wp2
      generalize w.alloc (.cells #[.int .i64 _, .int .i64 _, .int .i64 _] 91) = w1 at *
      go_quiet (fail)
      go_wp2
      go_ret
      exact ⟨ret_bool HR.out.symm, below_drewN HB.out _⟩
  · have HR : Hid (openT es ⟨xt, xw, xi⟩ what ⟨tx, wh, item⟩ = false) := Lib.hid (by simp [openT, c1])
    have c1' : (wh == what) = false := by simpa using c1
    go_enter Tryz.func151, Tryz.ntmps151
    go_wp2
    generalize w.alloc (.cells #[.int .i64 _, .int .i64 _, .int .i64 _] 91) = w1 at *
    go_quiet (fail)
    go_wp2
    go_ret
    exact ⟨ret_bool HR.out.symm, below_drewN HB.out _⟩

theorem call_open1 (args : Array Value) (w : World) : (callFunc 151 args).run Tryz.prog w = .ok (.enter 151 args) w := by kernel_rfl

theorem Rd.take {w : World} {B n i : Nat} {A : Option Addr} {h : List HOp} (hr : Rd w B 3 A n (cellsH h)) (hi : i ≤ n) : Rd w B 3 A i (cellsH (h.take i)) := by
  have hl := hr.hlen
  refine ⟨by rw [cellsH_length, List.length_take]; omega, fun hp => ?_⟩
  obtain ⟨b, off, e, hb, hc⟩ := hr.2 (by omega)
  refine ⟨b, off, e, hb, fun j u hu => hc j u ?_⟩
  rw [← cellsH_take, List.getElem?_take] at hu
  split at hu
  · exact hu
  · cases hu
theorem idxGo_any {α : Type} (p : α → Bool) (h : List α) : decide (0 ≤ idxGo p 0 h) = h.any p := by
  rcases idxGo_spec p 0 h with ⟨h1, h2⟩ | ⟨i, o, h1, h2, h3, h4⟩
  · rw [h2]
    have : h.any p = false := by rw [List.any_eq_false]; intro x hx; simp [h1 x hx]
    rw [this]; rfl
  · rw [h4]
    have : h.any p = true := List.any_eq_true.2 ⟨o, List.mem_of_getElem? h1, h2⟩
    rw [this]; simp
theorem containsFunc_op (A : Option Addr) (n cap : Nat) (h : List HOp) (F : FuncId) (caps : Array Value) (p : HOp → Bool) (w : World) (hr : Rd w w.heap.size 3 A n (cellsH h)) (hm : n ≤ 6000000000000)
    (hcall : ∀ (args : Array Value) (w : World), (callFunc F args).run Tryz.prog w = .ok (.enter F args) w)
    (hf : ∀ o ∈ h, ∀ w', Below w.heap.size w w' → Calls Tryz.prog F (#[o.val] ++ caps) w' fun e w'' => e = .returned (.bool (p o)) ∧ Below w'.heap.size w' w'') :
    Calls Tryz.prog 150 #[.slice A n cap, .func (.func F) #[] caps] w fun e w' => e = .returned (.bool (h.any p)) ∧ Below w.heap.size w w' := by
  have C := indexFunc_op A n cap h F caps p w hr hm hcall hf
  have HA := Lib.hid (idxGo_any p h)
  generalize idxGo p 0 h = v at *
  have HC := hide C
  clear C hf hcall
  go_enter Tryz.func150, Tryz.ntmps150
  go_wp2_with fail
  refine (unhide HC).mono ?_
  rintro e w1 ⟨rfl, hb1⟩
  go_wp2
  go_ret
  exact ⟨ret_bool HA.out, hb1⟩

set_option maxHeartbeats 400000 in
theorem open_any (A : Option Addr) (n cap : Nat) (h : List HOp) (i : Nat) (x : HOp) (what : Int) (w : World) (hr : Rd w w.heap.size 3 A n (cellsH h)) (hm : n ≤ 1000000) (hcap : n ≤ cap) (hx : h[i]? = some x) (ht : ∀ o ∈ h, 1 ≤ o.tx ∧ o.tx ≤ 6) :
    Calls Tryz.prog 107 #[.slice A n cap, .int .i64 i, .int .i64 what] w fun e w' => e = .returned (.bool (openB (h.take i) x what)) ∧ Below w.heap.size w w' := by
  have hin : i < n := by rw [← hr.hlen]; exact (List.getElem?_eq_some_iff.1 hx).1
  have hi2 : i ≤ cap := by omega
  have C1 := hide (fun w1 (hb : Below w.heap.size w w1) => ended_any A n cap h i w1 ((hr.below hb).more hb.size) hm hcap (by omega) ht)
  have C2 := hide (fun w1 F caps p (hb : Below w.heap.size w w1) => containsFunc_op A i cap (h.take i) F caps p w1 (((hr.below hb).more hb.size).take (by omega)) (by omega))
  have HT := Lib.hid ht
  have HX := Lib.hid hx
  clear ht hx
  have hll := endedF_length (h.take i)
  obtain ⟨x0, x1, x2, x3, x4, x5, x6, he⟩ := list7 hll
  have HE := Lib.hid he
  clear he hll
  go_enter Tryz.func107, Tryz.ntmps107
  go_wp2_with fail
  have hb0 : Below w.heap.size w (((w.alloc (.cells #[.slice A n cap] 29)).alloc (.cells #[.int .i64 i] 3)).alloc (.cells #[.int .i64 what] 3)) := (((Below.refl _ _).alloc (Nat.le_refl _) _).alloc (by simp) _).alloc (by simp; omega) _
  refine (unhide C1 _ hb0).mono ?_
  rintro e w1 ⟨rfl, hb1⟩
  rw [HE.out]
  simp only [arr7, List.getD_cons_zero, List.getD_cons_succ]
  have hz1 := hb1.size
  simp at hz1
  have k0 : w1.cell? ⟨w.heap.size, 0, none⟩ = some (.slice A n cap) := (hb1.cell (p := ⟨w.heap.size, 0, none⟩) (by simp; omega)).trans (by rw [World.cell?_alloc_lt _ _ _ (by simp; omega), World.cell?_alloc_lt _ _ _ (by simp)]; exact World.cell?_alloc_at _ _ _ _ rfl)
  have k1 : w1.cell? ⟨w.heap.size + 1, 0, none⟩ = some (.int .i64 i) := (hb1.cell (p := ⟨w.heap.size + 1, 0, none⟩) (by simp)).trans (by rw [World.cell?_alloc_lt _ _ _ (by simp)]; exact World.cell?_alloc_at _ _ _ _ (by simp))
  have k2 : w1.cell? ⟨w.heap.size + 1 + 1, 0, none⟩ = some (.int .i64 what) := (hb1.cell (p := ⟨w.heap.size + 1 + 1, 0, none⟩) (by simp)).trans (World.cell?_alloc_at _ _ _ _ (by simp))
  have hz2 : w.heap.size < w1.heap.size := by omega
  have hz3 : w.heap.size + 1 < w1.heap.size := by omega
  have hz4 : w.heap.size + 1 + 1 < w1.heap.size := by omega
  have hbw : Below w.heap.size w w1 := hb0.trans (hb1.mono (by simp; omega))
  have hbw2 := hbw.alloc hbw.size (.cells #[.int .i64 x0, .int .i64 x1, .int .i64 x2, .int .i64 x3, .int .i64 x4, .int .i64 x5, .int .i64 x6] 197)
  have HO : Hid (OpenAt (w1.alloc (.cells #[.int .i64 x0, .int .i64 x1, .int .i64 x2, .int .i64 x3, .int .i64 x4, .int .i64 x5, .int .i64 x6] 197)) (w.heap.size + 1 + 1) w.heap.size (w.heap.size + 1) w1.heap.size A n cap h i what (endedF (h.take i))) := by
    have hA := Below.alloc (Below.refl w1.heap.size w1) (Nat.le_refl _) (.cells #[.int .i64 x0, .int .i64 x1, .int .i64 x2, .int .i64 x3, .int .i64 x4, .int .i64 x5, .int .i64 x6] 197)
    refine ⟨(hA.cell (p := ⟨w.heap.size + 1 + 1, 0, none⟩) hz4).trans k2, (hA.cell (p := ⟨w.heap.size, 0, none⟩) hz2).trans k0, (hA.cell (p := ⟨w.heap.size + 1, 0, none⟩) hz3).trans k1, fun k hk => ?_⟩
    rw [HE.out]
    have : k = 0 ∨ k = 1 ∨ k = 2 ∨ k = 3 ∨ k = 4 ∨ k = 5 ∨ k = 6 := by omega
    rcases this with rfl | rfl | rfl | rfl | rfl | rfl | rfl <;> simp
  clear hb0 hb1
  go_wp2_with fail
  refine Calls.mono (unhide C2 _ 151 #[.pointer (some ⟨w.heap.size + 1 + 1, 0, none⟩), .pointer (some ⟨w.heap.size, 0, none⟩), .pointer (some ⟨w.heap.size + 1, 0, none⟩), .pointer (some ⟨w1.heap.size, 0, none⟩)] (openT (endedF (h.take i)) x what) hbw2 call_open1 (fun o ho w' hw' =>
    open1_any o x A n cap h i what _ _ _ _ _ w' ((hr.below (hbw2.trans (hw'.mono hbw2.size))).more (Nat.le_trans hbw2.size hw'.size)) HX.out (HT.out o (List.mem_of_mem_take ho)) (HO.out.below hw' (by simp; omega) (by simp; omega) (by simp; omega) (by simp)) (Nat.lt_of_lt_of_le (by simp; omega) hw'.size) (Nat.lt_of_lt_of_le (by simp; omega) hw'.size) (Nat.lt_of_lt_of_le (by simp; omega) hw'.size) (Nat.lt_of_lt_of_le (by simp) hw'.size))) ?_
  rintro e w2 ⟨rfl, hb2⟩
  have hbw3 := hbw2.trans (hb2.mono hbw2.size)
  go_wp2
  go_ret
  exact ⟨rfl, hbw3⟩
end Go.Proofs.YtaaahfbcpgdoiaaGreatDoor


namespace Go.Proofs.YtaaahfbcpgdoiaaGreatDoor
open Go.RowKit Go.Shelf

def eVal (e : Int × Int) : Value := .agg #[.int .i64 e.1, .int .i64 e.2]
set_option maxHeartbeats 400000 in
theorem indexFunc_edge (A : Option Addr) (n cap : Nat) (h : List (Int × Int)) (F : FuncId) (caps : Array Value) (p : (Int × Int) → Bool) (w : World) (hr : Rd w w.heap.size 2 A n (dcells h)) (hm : n ≤ 9000000000000)
    (hcall : ∀ (args : Array Value) (w : World), (callFunc F args).run Tryz.prog w = .ok (.enter F args) w)
    (hf : ∀ o ∈ h, ∀ w', Below w.heap.size w w' → Calls Tryz.prog F (#[eVal o] ++ caps) w' fun e w'' => e = .returned (.bool (p o)) ∧ Below w'.heap.size w' w'') :
    Calls Tryz.prog 187 #[.slice A n cap, .func (.func F) #[] caps] w fun e w' => e = .returned (.int .i64 (idxGo p 0 h)) ∧ Below w.heap.size w w' := by
  have hl := hr.dlen
  have HL := Lib.hid hl
  have HF := Lib.hid hf
  clear hl hf
  go_enter Tryz.func187, Tryz.ntmps187
  go_wp2
  go_loopw [8] (fun i wr => ∃ k : Nat, k ≤ n ∧ i = .int .i64 k ∧ Hid (idxGo p 0 h = idxGo p k (h.drop k)) ∧ Below w.heap.size w wr) (fun i _ => n - (intOf i).toNat)
  case atStart => exact ⟨0, Nat.zero_le _, rfl, rfl, Below.refl _ _⟩
  case round =>
    obtain ⟨k, hk, rfl, HE, hbw⟩ := hrel
    by_cases hlt : k < n
    · obtain ⟨b, off, o, he, hb, ho, c0, c1⟩ := (hr.below hbw).pr (k := k) (by omega)
      cases he
      have HO := Lib.hid (drop_at ho)
      have hmem := Lib.hid (List.mem_of_getElem? ho)
      clear ho
      cases hP : p o
      · have HE2 : Hid (idxGo p 0 h = idxGo p (k + 1) (h.drop (k + 1))) := Lib.hid (by rw [HE.out, HO.out]; simp [idxGo, hP])
        go_wp2_with fail
        refine (HF.out o hmem.out wr hbw).mono ?_
        rintro e w1 ⟨rfl, hb1⟩
        rw [hP]
        go_wp2
        go_roundw
        case rel => exact ⟨k + 1, by omega, by go_num, HE2, hbw.trans (hb1.mono hbw.size)⟩
        case measure => simp [intOf]; omega
      · have HE2 : Hid (idxGo p 0 h = k) := Lib.hid (by rw [HE.out, HO.out]; simp [idxGo, hP])
        go_wp2_with fail
        refine (HF.out o hmem.out wr hbw).mono ?_
        rintro e w1 ⟨rfl, hb1⟩
        rw [hP]
        go_wp2
        go_ret
        exact ⟨ret_int HE2.out.symm, hbw.trans (hb1.mono hbw.size)⟩
    · have HE2 : Hid (idxGo p 0 h = -1) := Lib.hid (by rw [HE.out, drop_end (by rw [HL.out]; omega)]; rfl)
      go_wp2
      go_ret
      exact ⟨ret_int HE2.out.symm, hbw⟩
theorem containsFunc_edge (A : Option Addr) (n cap : Nat) (h : List (Int × Int)) (F : FuncId) (caps : Array Value) (p : (Int × Int) → Bool) (w : World) (hr : Rd w w.heap.size 2 A n (dcells h)) (hm : n ≤ 9000000000000)
    (hcall : ∀ (args : Array Value) (w : World), (callFunc F args).run Tryz.prog w = .ok (.enter F args) w)
    (hf : ∀ o ∈ h, ∀ w', Below w.heap.size w w' → Calls Tryz.prog F (#[eVal o] ++ caps) w' fun e w'' => e = .returned (.bool (p o)) ∧ Below w'.heap.size w' w'') :
    Calls Tryz.prog 138 #[.slice A n cap, .func (.func F) #[] caps] w fun e w' => e = .returned (.bool (h.any p)) ∧ Below w.heap.size w w' := by
  have C := indexFunc_edge A n cap h F caps p w hr hm hcall hf
  have HA := Lib.hid (idxGo_any p h)
  generalize idxGo p 0 h = v at *
  have HC := hide C
  clear C hf hcall
  go_enter Tryz.func138, Tryz.ntmps138
  go_wp2_with fail
  refine (unhide HC).mono ?_
  rintro e w1 ⟨rfl, hb1⟩
  go_wp2
  go_ret
  exact ⟨ret_bool HA.out, hb1⟩
set_option maxHeartbeats 400000 in
theorem indexFunc_int (A : Option Addr) (n cap : Nat) (h : List Int) (F : FuncId) (caps : Array Value) (p : Int → Bool) (w : World) (hr : Rd w w.heap.size 1 A n (cellsI h)) (hm : n ≤ 6000000000000)
    (hcall : ∀ (args : Array Value) (w : World), (callFunc F args).run Tryz.prog w = .ok (.enter F args) w)
    (hf : ∀ o ∈ h, ∀ w', Below w.heap.size w w' → Calls Tryz.prog F (#[.int .i64 o] ++ caps) w' fun e w'' => e = .returned (.bool (p o)) ∧ Below w'.heap.size w' w'') :
    Calls Tryz.prog 136 #[.slice A n cap, .func (.func F) #[] caps] w fun e w' => e = .returned (.int .i64 (idxGo p 0 h)) ∧ Below w.heap.size w w' := by
  have hl := hr.ilen
  have HL := Lib.hid hl
  have HF := Lib.hid hf
  clear hl hf
  go_enter Tryz.func136, Tryz.ntmps136
  go_wp2
  go_loopw [8] (fun i wr => ∃ k : Nat, k ≤ n ∧ i = .int .i64 k ∧ Hid (idxGo p 0 h = idxGo p k (h.drop k)) ∧ Below w.heap.size w wr) (fun i _ => n - (intOf i).toNat)
  case atStart => exact ⟨0, Nat.zero_le _, rfl, rfl, Below.refl _ _⟩
  case round =>
    obtain ⟨k, hk, rfl, HE, hbw⟩ := hrel
    by_cases hlt : k < n
    · obtain ⟨b, off, o, he, hb, ho, c0⟩ := (hr.below hbw).int (k := k) (by omega)
      cases he
      have HO := Lib.hid (drop_at ho)
      have hmem := Lib.hid (List.mem_of_getElem? ho)
      clear ho
      cases hP : p o
      · have HE2 : Hid (idxGo p 0 h = idxGo p (k + 1) (h.drop (k + 1))) := Lib.hid (by rw [HE.out, HO.out]; simp [idxGo, hP])
        go_wp2_with fail
        refine (HF.out o hmem.out wr hbw).mono ?_
        rintro e w1 ⟨rfl, hb1⟩
        rw [hP]
        go_wp2
        go_roundw
        case rel => exact ⟨k + 1, by omega, by go_num, HE2, hbw.trans (hb1.mono hbw.size)⟩
        case measure => simp [intOf]; omega
      · have HE2 : Hid (idxGo p 0 h = k) := Lib.hid (by rw [HE.out, HO.out]; simp [idxGo, hP])
        go_wp2_with fail
        refine (HF.out o hmem.out wr hbw).mono ?_
        rintro e w1 ⟨rfl, hb1⟩
        rw [hP]
        go_wp2
        go_ret
        exact ⟨ret_int HE2.out.symm, hbw.trans (hb1.mono hbw.size)⟩
    · have HE2 : Hid (idxGo p 0 h = -1) := Lib.hid (by rw [HE.out, drop_end (by rw [HL.out]; omega)]; rfl)
      go_wp2
      go_ret
      exact ⟨ret_int HE2.out.symm, hbw⟩

theorem icontains_rd (A : Option Addr) (n c : Nat) (l : List Int) (x : Int) (w : World) (B : Nat) (hr : Rd w B 1 A n (cellsI l)) (hm : n ≤ 9223372036854775807) :
    Calls Tryz.prog 94 #[.slice A n c, .int .i64 x] w fun e w' => e = .returned (.bool (decide (x ∈ l))) ∧ w = w' := by
  have hl := hr.ilen
  rcases Nat.eq_zero_or_pos n with h0 | h0
  · subst h0
    have : l = [] := List.eq_nil_of_length_eq_zero hl
    subst this
    exact (Any.slices_Contains_int_empty Tryz.lContI A c x w).mono fun e w' ⟨he, hw⟩ => ⟨by rw [he]; simp, hw.symm⟩
  · obtain ⟨b, off, rfl, hb, hc⟩ := hr.2 h0
    refine (Any.slices_Contains_int Tryz.lContI b off n c l x w (by omega) hm (fun j hj => hc j _ (by rw [cellsI, List.getElem?_map, List.getElem?_eq_getElem hj]; simp [List.getD_eq_getElem?_getD, hj]))).mono fun e w' ⟨he, hw⟩ => ⟨?_, hw.symm⟩
    rw [he, List.take_of_length_le (by omega)]
    congr 2
    rw [Bool.eq_iff_iff, List.contains_iff_mem, decide_eq_true_iff]

/-! ### Check. -/
def badE (e : Int × Int) : Bool := !txB e.1 || !txB e.2
def checkG (E : List (Int × Int)) : Int := if 60 < E.length then 4 else if E.any badE then 1 else 0
/-! ### named. -/
def ends2 (E : List (Int × Int)) : List Int := E.flatMap fun e => [e.1, e.2]
def namedF (E : List (Int × Int)) : List Int := compL (sortI (ends2 E))
theorem ends2_snoc {E : List (Int × Int)} {k : Nat} {e : Int × Int} (h : E[k]? = some e) : ends2 (E.take (k + 1)) = ends2 (E.take k) ++ [e.1, e.2] := by
  rw [List.take_add_one, h]; simp [ends2]
theorem slt_ints : SlT Tryz.prog 24 3 1 8 := slt_int
end Go.Proofs.YtaaahfbcpgdoiaaGreatDoor


namespace Go.Proofs.YtaaahfbcpgdoiaaGreatDoor
open Go.RowKit

theorem own1_any (o : HOp) (tx : Int) (g : Nat) (w : World) (hB : Blk w g 3 [.int .i64 tx]) :
    Calls Tryz.prog 147 #[o.val, .pointer (some ⟨g, 0, none⟩)] w fun e w' => e = .returned (.bool (!decide (o.tx = tx))) ∧ Below w.heap.size w w' := by
  obtain ⟨a, what, item⟩ := o
  have hlt := hB.lt
  have c0 : (w.alloc (.cells #[.int .i64 a, .int .i64 what, .int .i64 item] 91)).cell? ⟨g, 0, none⟩ = some (.int .i64 tx) := (hB.alloc _).cellS rfl
  have HR : Hid ((a != tx) = !decide (a = tx)) := Lib.hid (by by_cases h : a = tx <;> simp [h])
  clear hB
  unfold HOp.val
  go_enter Tryz.func147, Tryz.ntmps147
  go_wp2
  go_ret
  exact ⟨ret_bool HR.out, (Below.refl _ _).alloc (Nat.le_refl _) _⟩
theorem call_own1 (args : Array Value) (w : World) : (callFunc 147 args).run Tryz.prog w = .ok (.enter 147 args) w := by kernel_rfl

set_option maxHeartbeats 1000000 in
theorem own_any (A : Option Addr) (n cap : Nat) (h : List HOp) (tx : Int) (w : World) (hr : Rd w w.heap.size 3 A n (cellsH h)) (hm : n ≤ 1000000) :
    Calls Tryz.prog 103 #[.slice A n cap, .int .i64 tx] w fun e w' => ∃ A' m c', e = .returned (.slice A' m c') ∧ w'.ownsRow w.heap.size 91 3 (.slice A' m c') m (cellsH (ownL h tx)) ∧ Below w.heap.size w w' := by
  have hB := Blk.new w 3 [.int .i64 tx]
  have hb0 : Below w.heap.size w (w.alloc (.cells #[.int .i64 tx] 3)) := (Below.refl _ _).alloc (Nat.le_refl _) _
  have C1 := hide (clone_op A n cap (cellsH h) _ ((hr.below hb0).more hb0.size) (oneH h) (by omega))
  have HB := hide hB
  have HB0 := hide hb0
  clear hB hb0
  go_enter Tryz.func103, Tryz.ntmps103
  go_wp2_with fail
  refine (unhide C1).mono ?_
  rintro e w1 ⟨v1, rfl, hown1, hb1⟩
  obtain ⟨A1, c1, rfl⟩ := own_slice hown1
  have hz1 : w.heap.size + 1 ≤ w1.heap.size := by have := hb1.size; simpa using this
  have hbw1 := (unhide HB0).trans (hb1.mono (unhide HB0).size)
  have hB1 := (unhide HB).below hb1 (unhide HB).lt
  have C2 := hide (deleteFunc_op A1 n c1 (w.heap.size + 1) h 147 #[.pointer (some ⟨w.heap.size, 0, none⟩)] (fun o => !decide (o.tx = tx)) w1 (own_mono hown1 (by simp)) hz1 (by omega) call_own1 (fun o ho w' hw' => own1_any o tx w.heap.size w' (hB1.below hw' (by omega))))
  clear C1 hb1 HB HB0 hown1
  go_wp2_with fail
  refine (unhide C2).mono ?_
  rintro e w2 ⟨m, rfl, hown2, hb2⟩
  have HQ : Hid (cellsH (ownL h tx) = cellsH (h.filter fun o => !!decide (o.tx = tx))) := Lib.hid (by unfold ownL; simp)
  rw [← HQ.out] at hown2
  have hbw2 := hbw1.trans (hb2.mono (by omega))
  clear C2 hb2 HQ
  go_wp2
  go_ret
  exact ⟨A1, m, c1, rfl, own_mono hown2 (by omega), hbw2⟩

/-! ### slices.Equal at ops. -/
set_option maxHeartbeats 1000000 in
theorem eqOps_any (A B : Option Addr) (n m c d : Nat) (xs ys : List HOp) (w : World) (ha : Rd w w.heap.size 3 A n (cellsH xs)) (hb : Rd w w.heap.size 3 B m (cellsH ys)) (hm : n ≤ 1000000000000) :
    Calls Tryz.prog 146 #[.slice A n c, .slice B m d] w fun e w' => e = .returned (.bool (decide (xs = ys))) ∧ Below w.heap.size w w' := by
  have hl1 := ha.hlen
  have hl2 := hb.hlen
  by_cases hnm : n = m
  · have hnm2 : ((n : Int) != (m : Int)) = false := by simp [hnm]
    have HN := Lib.hid hnm
    have HL := Lib.hid (And.intro hl1 hl2)
    have hle : n ≤ m := by omega
    clear hnm hl1 hl2
    go_enter Tryz.func146, Tryz.ntmps146
    go_wp2
    clear hnm2
    go_loopw [13] (fun i wr => ∃ k : Nat, k ≤ n ∧ i = .int .i64 k ∧ Hid (xs.take k = ys.take k) ∧ Below w.heap.size w wr) (fun i _ => n - (intOf i).toNat)
    case atStart => exact ⟨0, Nat.zero_le _, rfl, rfl, Below.refl _ _⟩
    case round =>
      obtain ⟨k, hk, rfl, HE, hbw⟩ := hrel
      by_cases hlt : k < n
      · obtain ⟨b1, o1, x, he, _, hx, c1, c2, c3⟩ := (ha.below hbw).op (k := k) (by omega)
        cases he
        obtain ⟨b2, o2, y, he, _, hy, d1, d2, d3⟩ := (hb.below hbw).op (k := k) (by omega)
        cases he
        have HT := Lib.hid (take_same HE.out hx hy)
        clear hx hy
        have hlm : k < m := by omega
        by_cases hxy : x = y
        · have HE2 := Lib.hid (HT.out.1 hxy)
          subst hxy
          go_wp2
          go_quiet (fail)
          go_wp2
          go_roundw
          case rel => exact ⟨k + 1, by omega, by go_num, HE2, below_drewN hbw _⟩
          case measure => simp [intOf]; omega
        · have HE2 : Hid (decide (xs = ys) = false) := Lib.hid (decide_eq_false (HT.out.2 hxy))
          obtain ⟨x1, x2, x3⟩ := x
          obtain ⟨y1, y2, y3⟩ := y
          have hxy2 : ¬ (x1 = y1 ∧ x2 = y2 ∧ x3 = y3) := fun h => hxy (by rw [h.1, h.2.1, h.2.2])
          clear hxy
          by_cases g1 : x1 = y1 <;> by_cases g2 : x2 = y2 <;> by_cases g3 : x3 = y3
          · exact absurd ⟨g1, g2, g3⟩ hxy2
          all_goals
            try subst g1
            try subst g2
            try subst g3
            clear hxy2
            go_wp2
            go_quiet (fail)
            go_wp2
            go_ret
            exact ⟨ret_bool HE2.out.symm, below_drewN hbw _⟩
      · have HE2 : Hid (decide (xs = ys) = true) := Lib.hid (decide_eq_true (by
          have := HE.out
          rwa [List.take_of_length_le (by rw [HL.out.1]; omega), List.take_of_length_le (by rw [HL.out.2, ← HN.out]; omega)] at this))
        go_wp2
        go_ret
        exact ⟨ret_bool HE2.out.symm, hbw⟩
  · have hnm2 : ((n : Int) != (m : Int)) = true := by simp; omega
    have HE2 : Hid (decide (xs = ys) = false) := Lib.hid (decide_eq_false (by rintro rfl; omega))
    clear hnm hl1 hl2
    go_enter Tryz.func146, Tryz.ntmps146
    go_wp2
    go_ret
    exact ⟨ret_bool HE2.out.symm, Below.refl _ _⟩

/-! ### odds.SameDeals -/
theorem ownL_len (h : List HOp) (t : Int) : (ownL h t).length ≤ h.length := List.length_filter_le _ _
def sameGo (h g : List HOp) : Nat → Int → Bool
  | 0, _ => true
  | r + 1, t => decide (ownL h t = ownL g t) && sameGo h g r (t + 1)
theorem sameGo_eq (h g : List HOp) : sameGo h g 6 1 = sameOwnB h g := by
  unfold sameOwnB
  simp only [sameGo, List.all_cons, List.all_nil]
  rfl
set_option maxHeartbeats 1000000 in
theorem sameDeals_any (A B : Option Addr) (n m c d : Nat) (h g : List HOp) (w : World) (hr : Rd w w.heap.size 3 A n (cellsH h)) (hg : Rd w w.heap.size 3 B m (cellsH g)) (hn : n ≤ 1000000) (hm : m ≤ 1000000) :
    Calls Tryz.prog 98 #[.slice A n c, .slice B m d] w fun e w' => e = .returned (.bool (sameOwnB h g)) ∧ Below w.heap.size w w' := by
  have HL := Lib.hid hr.hlen
  have HS : Hid (sameOwnB h g = sameGo h g 6 1) := Lib.hid (sameGo_eq h g).symm
  have C1 := hide (fun (t : Int) w1 (hb : Below w.heap.size w w1) => own_any A n c h t w1 ((hr.below hb).more hb.size) hn)
  have C2 := hide (fun (t : Int) w1 (hb : Below w.heap.size w w1) => own_any B m d g t w1 ((hg.below hb).more hb.size) hm)
  generalize sameOwnB h g = R at *
  go_enter Tryz.func98, Tryz.ntmps98
  go_wp2
  go_loopw [5] (fun s5 wr => ∃ t r : Nat, 1 ≤ t ∧ t + r = 7 ∧ s5 = .int .i64 t ∧ Hid (R = sameGo h g r t) ∧ Below w.heap.size w wr) (fun s5 _ => 7 - (intOf s5).toNat)
  case atStart => exact ⟨1, 6, by omega, rfl, rfl, HS, Below.refl _ _⟩
  case round =>
    clear HS
    obtain ⟨t, r, ht1, htr, rfl, HR, hbw⟩ := hrel
    by_cases ht6 : t ≤ 6
    · obtain ⟨r', rfl⟩ : ∃ r', r = r' + 1 := ⟨r - 1, by omega⟩
      have HR2 : Hid (R = (decide (ownL h t = ownL g t) && sameGo h g r' ((t : Int) + 1))) := HR
      have D1 := hide (unhide C1 t wr hbw)
      clear HR
      go_wp2_with fail
      refine (unhide D1).mono ?_
      rintro e w1 ⟨A1, m1, c1, rfl, ho1, hb1⟩
      have hbw1 := hbw.trans (hb1.mono hbw.size)
      have D2 := hide (unhide C2 t w1 hbw1)
      have hl1 : m1 ≤ 1000000 := by have := (rd_own ho1).hlen; have h2 := ownL_len h t; have h3 := HL.out; omega
      clear D1 hb1 hbw
      go_wp2_with fail
      refine (unhide D2).mono ?_
      rintro e w2 ⟨A2, m2, c2, rfl, ho2, hb2⟩
      have hbw2 := hbw1.trans (hb2.mono hbw1.size)
      have D3 := hide (eqOps_any A1 A2 m1 m2 c1 c2 _ _ w2 (((rd_own ho1).below hb2).more hb2.size) (rd_own ho2) (by omega))
      generalize decide (ownL h t = ownL g t) = q at *
      clear D2 ho1 ho2 hb2 hbw1
      go_wp2_with fail
      refine (unhide D3).mono ?_
      rintro e w3 ⟨rfl, hb3⟩
      have hbw3 := hbw2.trans (hb3.mono hbw2.size)
      clear D3 hb3 hbw2
      cases q
      · have HF : Hid (R = false) := Lib.hid (by rw [HR2.out]; rfl)
        clear HR2
        go_wp2
        go_ret
        exact ⟨ret_bool HF.out.symm, hbw3⟩
      · have HF : Hid (R = sameGo h g r' (t + 1 : Nat)) := Lib.hid (by rw [HR2.out]; simp)
        clear HR2
        go_wp2
        go_roundw
        case rel => exact ⟨t + 1, r', by omega, by omega, by go_num, HF, hbw3⟩
        case measure => simp [intOf]; omega
    · obtain rfl : r = 0 := by omega
      have HF : Hid (R = true) := HR
      clear HR
      go_wp2
      go_ret
      exact ⟨ret_bool HF.out.symm, hbw⟩
end Go.Proofs.YtaaahfbcpgdoiaaGreatDoor
