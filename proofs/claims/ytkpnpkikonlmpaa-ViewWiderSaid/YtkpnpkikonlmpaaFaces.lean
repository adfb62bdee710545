
/-
  CONTRACTS of faces.ended, Open and its test.
-/
import Derived.Test.YtkpnpkikonlmpaaDone
import Derived.Test.YtkpnpkikonlmpaaSame
import Derived.BigQuiet
import Derived.Handy

namespace Go.Proofs.Ytkpnpkikonlmpaa
open Go.RowKit

def endedGo (es : List Int) : List HOp → List Int
  | [] => es
  | o :: t => endedGo (if endsB o then es.set o.tx.toNat o.what else es) t
def endedF (h : List HOp) : List Int := endedGo (List.replicate 7 0) h
theorem endedGo_length (es : List Int) (h : List HOp) : (endedGo es h).length = es.length := by
  induction h generalizing es with
  | nil => rfl
  | cons o t ih => rw [endedGo, ih]; split <;> simp
theorem endedF_length (h : List HOp) : (endedF h).length = 7 := by simp [endedF, endedGo_length]
theorem list7 {α : Type} {l : List α} (h : l.length = 7) : ∃ a b c d e f g, l = [a, b, c, d, e, f, g] := by
  match l, h with
  | [a, b, c, d, e, f, g], _ => exact ⟨a, b, c, d, e, f, g, rfl⟩

def arr7 (l : List Int) : Value := .agg #[.int .i64 (l.getD 0 0), .int .i64 (l.getD 1 0), .int .i64 (l.getD 2 0), .int .i64 (l.getD 3 0), .int .i64 (l.getD 4 0), .int .i64 (l.getD 5 0), .int .i64 (l.getD 6 0)]

set_option maxHeartbeats 400000 in
theorem ended_any (A : Option Addr) (n cap : Nat) (h : List HOp) (i0 : Nat) (w : World) (hr : Rd w w.heap.size 3 A n (cellsH h)) (hm : n ≤ 1000000) (hcap : n ≤ cap) (hi : i0 ≤ n) (ht : ∀ o ∈ h, 1 ≤ o.tx ∧ o.tx ≤ 6) :
    Calls Try.prog 32 #[.slice A n cap, .int .i64 i0] w fun e w' => e = .returned (arr7 (endedF (h.take i0))) ∧ Below w.heap.size w w' := by
  have hl := hr.hlen
  have HL := Lib.hid hl
  have HT := Lib.hid ht
  have hi2 : i0 ≤ cap := by omega
  clear hl ht
  go_enter Try.func32, Try.ntmps32
  go_wp2
  go_loopw [12] (fun i wr => ∃ (k : Nat) (es : List Int), k ≤ i0 ∧ i = .int .i64 k ∧ es.length = 7 ∧ Blk wr (w.heap.size + 1) 65 (cellsI es) ∧ Blk wr w.heap.size 65 (cellsI (List.replicate 7 0)) ∧ Hid (endedF (h.take i0) = endedGo es ((h.take i0).drop k)) ∧ Below w.heap.size w wr)
    (fun i _ => i0 - (intOf i).toNat)
  case atStart => exact ⟨0, List.replicate 7 0, Nat.zero_le _, rfl, rfl, by simpa [cellsI] using Blk.new (w.alloc (.cells (cellsI (List.replicate 7 0)).toArray 65)) 65 (cellsI (List.replicate 7 0)), (Blk.new w 65 (cellsI (List.replicate 7 0))).alloc _, rfl, ((Below.refl _ _).alloc (Nat.le_refl _) _).alloc (by simp) _⟩
  case round =>
    obtain ⟨k, es, hk, rfl, hes, hB, hB0, HE, hbw⟩ := hrel
    have hBlt := hB.lt
    by_cases hlt : k < i0
    · obtain ⟨b, off, o, he, hb, ho, c0, c1, c2⟩ := (hr.below hbw).op (k := k) (by omega)
      cases he
      obtain ⟨h1, h2⟩ := HT.out o (List.mem_of_getElem? ho)
      obtain ⟨tx, what, item⟩ := o
      simp only at h1 h2 c0 c1 c2
      have HO : Hid ((h.take i0).drop k = ⟨tx, what, item⟩ :: (h.take i0).drop (k + 1)) := drop_at (by rw [List.getElem?_take, if_pos hlt]; exact ho)
      clear ho
      have hb' : b < wr.heap.size := by omega
      have hz : tx.toNat < 7 := by omega
      cases hE : endsB ⟨tx, what, item⟩
      · have HF : Hid (endedF (h.take i0) = endedGo es ((h.take i0).drop (k + 1))) := Lib.hid (by rw [HE.out, HO.out]; simp [endedGo, hE])
        go_wp2_with (go_at_call 30; refine (ends_any ⟨tx, what, item⟩ _).mono ?_; rintro e w1 ⟨rfl, hb1⟩; rw [hE]; obtain ⟨hc, hf⟩ := bcell hb1)
        have hbw2 : Below w.heap.size w w1 := (hbw.alloc (by omega) _).trans (hb1.mono (by simp; omega))
        go_roundw
        case rel => exact ⟨k + 1, es, by omega, by go_num, hes, (hB.alloc _).below hb1 (by simp; omega), (hB0.alloc _).below hb1 (by simp; omega), HF, hbw2⟩
        case measure => simp [intOf]; omega
      · have HF : Hid (endedF (h.take i0) = endedGo (es.set tx.toNat what) ((h.take i0).drop (k + 1))) := Lib.hid (by rw [HE.out, HO.out]; simp [endedGo, hE])
        obtain ⟨v0, hv0⟩ : ∃ v, es[tx.toNat]? = some v := ⟨_, List.getElem?_eq_getElem (by omega)⟩
        go_wp2_with (go_at_call 30; refine (ends_any ⟨tx, what, item⟩ _).mono ?_; rintro e w1 ⟨rfl, hb1⟩; rw [hE]; obtain ⟨hc, hf⟩ := bcell hb1; have hB1 := (hB.alloc _).below hb1 (by simp; omega); have d3 := hB1.cellS (i := tx.toNat) (v := .int .i64 v0) (by rw [cellsI, List.getElem?_map, hv0]; rfl); have d4 := hB1.frozen tx.toNat)
        have hbw2 : Below w.heap.size w w1 := (hbw.alloc (by omega) _).trans (hb1.mono (by simp; omega))
        have hB02 := (hB0.alloc (.cells #[.int .i64 tx, .int .i64 what, .int .i64 item] 24)).below hb1 (by simp; omega)
        go_roundw
        case rel => exact ⟨k + 1, es.set tx.toNat what, by omega, by go_num, by simp [hes], by rw [cellsI, List.map_set]; exact hB1.put _ _, hB02.far (p := ⟨w.heap.size + 1, tx.toNat, none⟩) (by simp) _, HF, hbw2.setCell (by simp) _⟩
        case measure => simp [intOf]; omega
    · have HF : Hid (es = endedF (h.take i0)) := Lib.hid (by rw [HE.out, drop_end (by rw [List.length_take]; omega)]; rfl)
      obtain ⟨x0, x1, x2, x3, x4, x5, x6, rfl⟩ := list7 hes
      have HF2 : Hid (arr7 (endedF (h.take i0)) = .agg #[.int .i64 x0, .int .i64 x1, .int .i64 x2, .int .i64 x3, .int .i64 x4, .int .i64 x5, .int .i64 x6]) := Lib.hid (by rw [← HF.out]; rfl)
      have y0 := hB.cellS (i := 0) (v := .int .i64 x0) rfl
      have y1 := hB.cellS (i := 1) (v := .int .i64 x1) rfl
      have y2 := hB.cellS (i := 2) (v := .int .i64 x2) rfl
      have y3 := hB.cellS (i := 3) (v := .int .i64 x3) rfl
      have y4 := hB.cellS (i := 4) (v := .int .i64 x4) rfl
      have y5 := hB.cellS (i := 5) (v := .int .i64 x5) rfl
      have y6 := hB.cellS (i := 6) (v := .int .i64 x6) rfl
      have z0 := hB0.cellS (i := 0) (v := .int .i64 0) rfl
      have z1 := hB0.cellS (i := 1) (v := .int .i64 0) rfl
      have z2 := hB0.cellS (i := 2) (v := .int .i64 0) rfl
      have z3 := hB0.cellS (i := 3) (v := .int .i64 0) rfl
      have z4 := hB0.cellS (i := 4) (v := .int .i64 0) rfl
      have z5 := hB0.cellS (i := 5) (v := .int .i64 0) rfl
      have z6 := hB0.cellS (i := 6) (v := .int .i64 0) rfl
      have g0 := hB0.frozen 0
      have g1 := hB0.frozen 1
      have g2 := hB0.frozen 2
      have g3 := hB0.frozen 3
      have g4 := hB0.frozen 4
      have g5 := hB0.frozen 5
      have g6 := hB0.frozen 6
      go_wp2
      have hR := ((((((hB0.put 0 (.int .i64 x0)).put 1 (.int .i64 x1)).put 2 (.int .i64 x2)).put 3 (.int .i64 x3)).put 4 (.int .i64 x4)).put 5 (.int .i64 x5)).put 6 (.int .i64 x6)
      have r0 := hR.cellS (i := 0) (v := .int .i64 x0) rfl
      have r1 := hR.cellS (i := 1) (v := .int .i64 x1) rfl
      have r2 := hR.cellS (i := 2) (v := .int .i64 x2) rfl
      have r3 := hR.cellS (i := 3) (v := .int .i64 x3) rfl
      have r4 := hR.cellS (i := 4) (v := .int .i64 x4) rfl
      have r5 := hR.cellS (i := 5) (v := .int .i64 x5) rfl
      have r6 := hR.cellS (i := 6) (v := .int .i64 x6) rfl
      refine bodyPost_ret (v := .agg #[.int .i64 x0, .int .i64 x1, .int .i64 x2, .int .i64 x3, .int .i64 x4, .int .i64 x5, .int .i64 x6]) (by simp [results, Try.results32, go_sem, r0, r1, r2, r3, r4, r5, r6]) rfl ?_
      exact ⟨by rw [HF2.out], ((((((hbw.setCell (Nat.le_refl _) _).setCell (Nat.le_refl _) _).setCell (Nat.le_refl _) _).setCell (Nat.le_refl _) _).setCell (Nat.le_refl _) _).setCell (Nat.le_refl _) _).setCell (Nat.le_refl _) _⟩

/-! ### Open. -/
def openT (es : List Int) (x : HOp) (what : Int) (o : HOp) : Bool := decide (o.what = what ∧ o.item = x.item ∧ o.tx ≠ x.tx ∧ es.getD o.tx.toNat 0 = 0)
def openB (pre : List HOp) (x : HOp) (what : Int) : Bool := pre.any (openT (endedF pre) x what)

/-- The four places that the test has caught. -/
structure OpenAt (w : World) (gw gh gi ge : Nat) (A : Option Addr) (n cap : Nat) (h : List HOp) (i : Nat) (what : Int) (es : List Int) : Prop where
  what : w.cell? ⟨gw, 0, none⟩ = some (.int .i64 what)
  hist : w.cell? ⟨gh, 0, none⟩ = some (.slice A n cap)
  idx : w.cell? ⟨gi, 0, none⟩ = some (.int .i64 i)
  ends : ∀ k, k < 7 → w.cell? ⟨ge, k, none⟩ = some (.int .i64 (es.getD k 0))
theorem OpenAt.below {w w' : World} {gw gh gi ge : Nat} {A : Option Addr} {n cap : Nat} {h : List HOp} {i : Nat} {what : Int} {es : List Int} {B : Nat} (H : OpenAt w gw gh gi ge A n cap h i what es) (hb : Below B w w') (h1 : gw < B) (h2 : gh < B) (h3 : gi < B) (h4 : ge < B) : OpenAt w' gw gh gi ge A n cap h i what es :=
  ⟨(hb.cell (p := ⟨gw, 0, none⟩) h1).trans H.what, (hb.cell (p := ⟨gh, 0, none⟩) h2).trans H.hist, (hb.cell (p := ⟨gi, 0, none⟩) h3).trans H.idx, fun k hk => (hb.cell (p := ⟨ge, k, none⟩) h4).trans (H.ends k hk)⟩

set_option maxHeartbeats 1000000 in
theorem open1_any (o x : HOp) (A : Option Addr) (n cap : Nat) (h : List HOp) (i : Nat) (what : Int) (es : List Int) (gw gh gi ge : Nat) (w : World) (hr : Rd w w.heap.size 3 A n (cellsH h)) (hx : h[i]? = some x) (ho : 1 ≤ o.tx ∧ o.tx ≤ 6)
    (H : OpenAt w gw gh gi ge A n cap h i what es) (h1 : gw < w.heap.size) (h2 : gh < w.heap.size) (h3 : gi < w.heap.size) (h4 : ge < w.heap.size) :
    Calls Try.prog 61 #[o.val, .pointer (some ⟨gw, 0, none⟩), .pointer (some ⟨gh, 0, none⟩), .pointer (some ⟨gi, 0, none⟩), .pointer (some ⟨ge, 0, none⟩)] w fun e w' => e = .returned (.bool (openT es x what o)) ∧ Below w.heap.size w w' := by
  obtain ⟨tx, wh, item⟩ := o
  obtain ⟨ho1, ho2⟩ := ho
  simp only at ho1 ho2
  have hin : i < n := by rw [← hr.hlen]; exact (List.getElem?_eq_some_iff.1 hx).1
  obtain ⟨b, off, x', rfl, hb, hx', d0, d1, d2⟩ := hr.op hin
  rw [hx] at hx'
  injection hx' with hx'
  subst hx'
  obtain ⟨xt, xw, xi⟩ := x
  simp only at d0 d1 d2
  have e0 := H.ends tx.toNat (by omega)
  have HB := Lib.hid (Below.alloc (Below.refl w.heap.size w) (Nat.le_refl _) (.cells #[.int .i64 tx, .int .i64 wh, .int .i64 item] 24))
  have hz : tx.toNat < 7 := by omega
  have k7 : (w.alloc (.cells #[.int .i64 tx, .int .i64 wh, .int .i64 item] 24)).cell? ⟨w.heap.size, 0, none⟩ = some (.int .i64 tx) := by simp [World.cell?_alloc_new]
  have k8 : (w.alloc (.cells #[.int .i64 tx, .int .i64 wh, .int .i64 item] 24)).cell? ⟨w.heap.size, 1, none⟩ = some (.int .i64 wh) := by simp [World.cell?_alloc_new]
  have k9 : (w.alloc (.cells #[.int .i64 tx, .int .i64 wh, .int .i64 item] 24)).cell? ⟨w.heap.size, 2, none⟩ = some (.int .i64 item) := by simp [World.cell?_alloc_new]
  have k0 := (HB.out.cell (p := ⟨b, off + i * 3, none⟩) hb).trans d0
  have k1 := (HB.out.cell (p := ⟨b, off + i * 3 + 1, none⟩) hb).trans d1
  have k2 := (HB.out.cell (p := ⟨b, off + i * 3 + 2, none⟩) hb).trans d2
  have k3 := (HB.out.cell (p := ⟨gw, 0, none⟩) h1).trans H.what
  have k4 := (HB.out.cell (p := ⟨gh, 0, none⟩) h2).trans H.hist
  have k5 := (HB.out.cell (p := ⟨gi, 0, none⟩) h3).trans H.idx
  have k6 := (HB.out.cell (p := ⟨ge, tx.toNat, none⟩) h4).trans e0
  generalize hv : es.getD tx.toNat 0 = v at *
  have HV := Lib.hid hv
  clear hv d0 d1 d2 e0 H hx hr hb h1 h2 h3 h4
  unfold HOp.val
  by_cases c1 : wh = what
  · by_cases c2 : item = xi
    · by_cases c3 : tx = xt
      · have HR : Hid (openT es ⟨xt, xw, xi⟩ what ⟨tx, wh, item⟩ = false) := Lib.hid (by simp [openT, c3])
        subst c1 c2 c3
        go_enter Try.func61, Try.ntmps61
        go_wp2
        generalize w.alloc (.cells #[.int .i64 _, .int .i64 _, .int .i64 _] 24) = w1 at *
        go_quiet (fail)
        go_wp2
        go_ret
        exact ⟨ret_bool HR.out.symm, below_drewN HB.out _⟩
      · have HR : Hid (openT es ⟨xt, xw, xi⟩ what ⟨tx, wh, item⟩ = (v == 0)) := Lib.hid (by rw [openT, HV.out, Bool.eq_iff_iff]; simp [c1, c2, c3])
        have c3' : (tx != xt) = true := by simpa using c3
        subst c1 c2
        go_enter Try.func61, Try.ntmps61
        go_wp2
        generalize w.alloc (.cells #[.int .i64 _, .int .i64 _, .int .i64 _] 24) = w1 at *
        go_quiet (fail)
        go_wp2
        go_ret
        exact ⟨ret_bool HR.out.symm, below_drewN HB.out _⟩
    · have HR : Hid (openT es ⟨xt, xw, xi⟩ what ⟨tx, wh, item⟩ = false) := Lib.hid (by simp [openT, c2])
      have c2' : (item == xi) = false := by simpa using c2
      subst c1
      go_enter Try.func61, Try.ntmps61
      go_wp2
      generalize w.alloc (.cells #[.int .i64 _, .int .i64 _, .int .i64 _] 24) = w1 at *
      go_quiet (fail)
      go_wp2
      go_ret
      exact ⟨ret_bool HR.out.symm, below_drewN HB.out _⟩
  · have HR : Hid (openT es ⟨xt, xw, xi⟩ what ⟨tx, wh, item⟩ = false) := Lib.hid (by simp [openT, c1])
    have c1' : (wh == what) = false := by simpa using c1
    go_enter Try.func61, Try.ntmps61
    go_wp2
    generalize w.alloc (.cells #[.int .i64 _, .int .i64 _, .int .i64 _] 24) = w1 at *
    go_quiet (fail)
    go_wp2
    go_ret
    exact ⟨ret_bool HR.out.symm, below_drewN HB.out _⟩

theorem call_open1 (args : Array Value) (w : World) : (callFunc 61 args).run Try.prog w = .ok (.enter 61 args) w := by kernel_rfl

theorem Rd.take {w : World} {B n i : Nat} {A : Option Addr} {h : List HOp} (hr : Rd w B 3 A n (cellsH h)) (hi : i ≤ n) : Rd w B 3 A i (cellsH (h.take i)) := by
  have hl := hr.hlen
  refine ⟨by rw [cellsH_length, List.length_take]; omega, fun hp => ?_⟩
  obtain ⟨b, off, e, hb, hc⟩ := hr.2 (by omega)
  refine ⟨b, off, e, hb, fun j u hu => hc j u ?_⟩
  rw [← cellsH_take, List.getElem?_take] at hu
  split at hu
  · exact hu
  · cases hu
theorem idxGo_any {α : Type} (p : α → Bool) (h : List α) : decide (0 ≤ idxGo p 0 h) = h.any p := by
  rcases idxGo_spec p 0 h with ⟨h1, h2⟩ | ⟨i, o, h1, h2, h3, h4⟩
  · rw [h2]
    have : h.any p = false := by rw [List.any_eq_false]; intro x hx; simp [h1 x hx]
    rw [this]; rfl
  · rw [h4]
    have : h.any p = true := List.any_eq_true.2 ⟨o, List.mem_of_getElem? h1, h2⟩
    rw [this]; simp
theorem containsFunc_op (A : Option Addr) (n cap : Nat) (h : List HOp) (F : FuncId) (caps : Array Value) (p : HOp → Bool) (w : World) (hr : Rd w w.heap.size 3 A n (cellsH h)) (hm : n ≤ 6000000000000)
    (hcall : ∀ (args : Array Value) (w : World), (callFunc F args).run Try.prog w = .ok (.enter F args) w)
    (hf : ∀ o ∈ h, ∀ w', Below w.heap.size w w' → Calls Try.prog F (#[o.val] ++ caps) w' fun e w'' => e = .returned (.bool (p o)) ∧ Below w'.heap.size w' w'') :
    Calls Try.prog 60 #[.slice A n cap, .func (.func F) #[] caps] w fun e w' => e = .returned (.bool (h.any p)) ∧ Below w.heap.size w w' := by
  have C := indexFunc_op A n cap h F caps p w hr hm hcall hf
  have HA := Lib.hid (idxGo_any p h)
  generalize idxGo p 0 h = v at *
  have HC := hide C
  clear C hf hcall
  go_enter Try.func60, Try.ntmps60
  go_wp2_with fail
  refine (unhide HC).mono ?_
  rintro e w1 ⟨rfl, hb1⟩
  go_wp2
  go_ret
  exact ⟨ret_bool HA.out, hb1⟩

set_option maxHeartbeats 400000 in
theorem open_any (A : Option Addr) (n cap : Nat) (h : List HOp) (i : Nat) (x : HOp) (what : Int) (w : World) (hr : Rd w w.heap.size 3 A n (cellsH h)) (hm : n ≤ 1000000) (hcap : n ≤ cap) (hx : h[i]? = some x) (ht : ∀ o ∈ h, 1 ≤ o.tx ∧ o.tx ≤ 6) :
    Calls Try.prog 33 #[.slice A n cap, .int .i64 i, .int .i64 what] w fun e w' => e = .returned (.bool (openB (h.take i) x what)) ∧ Below w.heap.size w w' := by
  have hin : i < n := by rw [← hr.hlen]; exact (List.getElem?_eq_some_iff.1 hx).1
  have hi2 : i ≤ cap := by omega
  have C1 := hide (fun w1 (hb : Below w.heap.size w w1) => ended_any A n cap h i w1 ((hr.below hb).more hb.size) hm hcap (by omega) ht)
  have C2 := hide (fun w1 F caps p (hb : Below w.heap.size w w1) => containsFunc_op A i cap (h.take i) F caps p w1 (((hr.below hb).more hb.size).take (by omega)) (by omega))
  have HT := Lib.hid ht
  have HX := Lib.hid hx
  clear ht hx
  have hll := endedF_length (h.take i)
  obtain ⟨x0, x1, x2, x3, x4, x5, x6, he⟩ := list7 hll
  have HE := Lib.hid he
  clear he hll
  go_enter Try.func33, Try.ntmps33
  go_wp2_with fail
  have hb0 : Below w.heap.size w (((w.alloc (.cells #[.slice A n cap] 22)).alloc (.cells #[.int .i64 i] 3)).alloc (.cells #[.int .i64 what] 3)) := (((Below.refl _ _).alloc (Nat.le_refl _) _).alloc (by simp) _).alloc (by simp; omega) _
  refine (unhide C1 _ hb0).mono ?_
  rintro e w1 ⟨rfl, hb1⟩
  rw [HE.out]
  simp only [arr7, List.getD_cons_zero, List.getD_cons_succ]
  have hz1 := hb1.size
  simp at hz1
  have k0 : w1.cell? ⟨w.heap.size, 0, none⟩ = some (.slice A n cap) := (hb1.cell (p := ⟨w.heap.size, 0, none⟩) (by simp; omega)).trans (by rw [World.cell?_alloc_lt _ _ _ (by simp; omega), World.cell?_alloc_lt _ _ _ (by simp)]; exact World.cell?_alloc_at _ _ _ _ rfl)
  have k1 : w1.cell? ⟨w.heap.size + 1, 0, none⟩ = some (.int .i64 i) := (hb1.cell (p := ⟨w.heap.size + 1, 0, none⟩) (by simp)).trans (by rw [World.cell?_alloc_lt _ _ _ (by simp)]; exact World.cell?_alloc_at _ _ _ _ (by simp))
  have k2 : w1.cell? ⟨w.heap.size + 1 + 1, 0, none⟩ = some (.int .i64 what) := (hb1.cell (p := ⟨w.heap.size + 1 + 1, 0, none⟩) (by simp)).trans (World.cell?_alloc_at _ _ _ _ (by simp))
  have hz2 : w.heap.size < w1.heap.size := by omega
  have hz3 : w.heap.size + 1 < w1.heap.size := by omega
  have hz4 : w.heap.size + 1 + 1 < w1.heap.size := by omega
  have hbw : Below w.heap.size w w1 := hb0.trans (hb1.mono (by simp; omega))
  have hbw2 := hbw.alloc hbw.size (.cells #[.int .i64 x0, .int .i64 x1, .int .i64 x2, .int .i64 x3, .int .i64 x4, .int .i64 x5, .int .i64 x6] 65)
  have HO : Hid (OpenAt (w1.alloc (.cells #[.int .i64 x0, .int .i64 x1, .int .i64 x2, .int .i64 x3, .int .i64 x4, .int .i64 x5, .int .i64 x6] 65)) (w.heap.size + 1 + 1) w.heap.size (w.heap.size + 1) w1.heap.size A n cap h i what (endedF (h.take i))) := by
    have hA := Below.alloc (Below.refl w1.heap.size w1) (Nat.le_refl _) (.cells #[.int .i64 x0, .int .i64 x1, .int .i64 x2, .int .i64 x3, .int .i64 x4, .int .i64 x5, .int .i64 x6] 65)
    refine ⟨(hA.cell (p := ⟨w.heap.size + 1 + 1, 0, none⟩) hz4).trans k2, (hA.cell (p := ⟨w.heap.size, 0, none⟩) hz2).trans k0, (hA.cell (p := ⟨w.heap.size + 1, 0, none⟩) hz3).trans k1, fun k hk => ?_⟩
    rw [HE.out]
    have : k = 0 ∨ k = 1 ∨ k = 2 ∨ k = 3 ∨ k = 4 ∨ k = 5 ∨ k = 6 := by omega
    rcases this with rfl | rfl | rfl | rfl | rfl | rfl | rfl <;> simp
  clear hb0 hb1
  go_wp2_with fail
  refine Calls.mono (unhide C2 _ 61 #[.pointer (some ⟨w.heap.size + 1 + 1, 0, none⟩), .pointer (some ⟨w.heap.size, 0, none⟩), .pointer (some ⟨w.heap.size + 1, 0, none⟩), .pointer (some ⟨w1.heap.size, 0, none⟩)] (openT (endedF (h.take i)) x what) hbw2 call_open1 (fun o ho w' hw' =>
    open1_any o x A n cap h i what _ _ _ _ _ w' ((hr.below (hbw2.trans (hw'.mono hbw2.size))).more (Nat.le_trans hbw2.size hw'.size)) HX.out (HT.out o (List.mem_of_mem_take ho)) (HO.out.below hw' (by simp; omega) (by simp; omega) (by simp; omega) (by simp)) (Nat.lt_of_lt_of_le (by simp; omega) hw'.size) (Nat.lt_of_lt_of_le (by simp; omega) hw'.size) (Nat.lt_of_lt_of_le (by simp; omega) hw'.size) (Nat.lt_of_lt_of_le (by simp) hw'.size))) ?_
  rintro e w2 ⟨rfl, hb2⟩
  have hbw3 := hbw2.trans (hb2.mono hbw2.size)
  go_wp2
  go_ret
  exact ⟨rfl, hbw3⟩
end Go.Proofs.Ytkpnpkikonlmpaa
