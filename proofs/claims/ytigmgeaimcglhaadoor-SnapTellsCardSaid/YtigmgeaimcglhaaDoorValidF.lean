
/-
  CONTRACTS of slices.ContainsFunc at numbers and at deals, valid.Since, snap.See, snap.May.
-/
import Derived.Test.YtigmgeaimcglhaaDoorValidH
import Derived.Test.YtigmgeaimcglhaaDoorVQ1
import Derived.Test.YtigmgeaimcglhaaDoorGraph
import Derived.Deep.RegionHeld3

namespace Go.Proofs.YtigmgeaimcglhaaDoor
open Go.RowKit

theorem Rd.plen {w : World} {B n : Nat} {A : Option Addr} {l : List Int} {g : Int → Nat} (h : Rd w B 1 A n (l.map fun t => .pointer (some ⟨g t, 0, none⟩))) : l.length = n := by
  have := h.1
  simpa using this
theorem Rd.ptr {w : World} {B n : Nat} {A : Option Addr} {l : List Int} {g : Int → Nat} (h : Rd w B 1 A n (l.map fun t => .pointer (some ⟨g t, 0, none⟩))) {k : Nat} (hk : k < n) :
    ∃ b off x, A = some ⟨b, off, none⟩ ∧ b < B ∧ l[k]? = some x ∧ w.cell? ⟨b, off + k, none⟩ = some (.pointer (some ⟨g x, 0, none⟩)) := by
  have hl := h.plen
  obtain ⟨b, off, e, hb, hc⟩ := h.2 (by omega)
  obtain ⟨x, hx⟩ : ∃ x, l[k]? = some x := ⟨_, List.getElem?_eq_getElem (by omega)⟩
  exact ⟨b, off, x, e, hb, hx, hc k _ (by rw [List.getElem?_map, hx]; rfl)⟩
set_option maxHeartbeats 400000 in
theorem indexFunc_intB (A : Option Addr) (n cap : Nat) (h : List Int) (F : FuncId) (pre caps : Array Value) (p : Int → Bool) (w : World) (hr : Rd w w.heap.size 1 A n (cellsI h)) (hm : n ≤ 6000000000000)
    (hcall : ∀ (args : Array Value) (w : World), (callFunc F args).run Tryd.prog w = .ok (.enter F args) w)
    (hf : ∀ o ∈ h, ∀ w', Below w.heap.size w w' → Calls Tryd.prog F (pre ++ #[.int .i64 o] ++ caps) w' fun e w'' => e = .returned (.bool (p o)) ∧ Below w'.heap.size w' w'') :
    Calls Tryd.prog 68 #[.slice A n cap, .func (.func F) pre caps] w fun e w' => e = .returned (.int .i64 (idxGo p 0 h)) ∧ Below w.heap.size w w' := by
  have hl := hr.ilen
  have HL := Lib.hid hl
  have HF := Lib.hid hf
  clear hl hf
  go_enter Tryd.func68, Tryd.ntmps68
  go_wp2
  go_loopw [8] (fun i wr => ∃ k : Nat, k ≤ n ∧ i = .int .i64 k ∧ Hid (idxGo p 0 h = idxGo p k (h.drop k)) ∧ Below w.heap.size w wr) (fun i _ => n - (intOf i).toNat)
  case atStart => exact ⟨0, Nat.zero_le _, rfl, rfl, Below.refl _ _⟩
  case round =>
    obtain ⟨k, hk, rfl, HE, hbw⟩ := hrel
    by_cases hlt : k < n
    · obtain ⟨b, off, o, he, hb, ho, c0⟩ := (hr.below hbw).int (k := k) (by omega)
      cases he
      have HO := Lib.hid (drop_at ho)
      have hmem := Lib.hid (List.mem_of_getElem? ho)
      clear ho
      cases hP : p o
      · have HE2 : Hid (idxGo p 0 h = idxGo p (k + 1) (h.drop (k + 1))) := Lib.hid (by rw [HE.out, HO.out]; simp [idxGo, hP])
        go_wp2_with fail
        refine (HF.out o hmem.out wr hbw).mono ?_
        rintro e w1 ⟨rfl, hb1⟩
        rw [hP]
        go_wp2
        go_roundw
        case rel => exact ⟨k + 1, by omega, by go_num, HE2, hbw.trans (hb1.mono hbw.size)⟩
        case measure => simp [intOf]; omega
      · have HE2 : Hid (idxGo p 0 h = k) := Lib.hid (by rw [HE.out, HO.out]; simp [idxGo, hP])
        go_wp2_with fail
        refine (HF.out o hmem.out wr hbw).mono ?_
        rintro e w1 ⟨rfl, hb1⟩
        rw [hP]
        go_wp2
        go_ret
        exact ⟨ret_int HE2.out.symm, hbw.trans (hb1.mono hbw.size)⟩
    · have HE2 : Hid (idxGo p 0 h = -1) := Lib.hid (by rw [HE.out, drop_end (by rw [HL.out]; omega)]; rfl)
      go_wp2
      go_ret
      exact ⟨ret_int HE2.out.symm, hbw⟩
theorem containsFunc_intB (A : Option Addr) (n cap : Nat) (h : List Int) (F : FuncId) (pre caps : Array Value) (p : Int → Bool) (w : World) (hr : Rd w w.heap.size 1 A n (cellsI h)) (hm : n ≤ 6000000000000)
    (hcall : ∀ (args : Array Value) (w : World), (callFunc F args).run Tryd.prog w = .ok (.enter F args) w)
    (hf : ∀ o ∈ h, ∀ w', Below w.heap.size w w' → Calls Tryd.prog F (pre ++ #[.int .i64 o] ++ caps) w' fun e w'' => e = .returned (.bool (p o)) ∧ Below w'.heap.size w' w'') :
    Calls Tryd.prog 48 #[.slice A n cap, .func (.func F) pre caps] w fun e w' => e = .returned (.bool (h.any p)) ∧ Below w.heap.size w w' := by
  have C := indexFunc_intB A n cap h F pre caps p w hr hm hcall hf
  have HA := Lib.hid (idxGo_any p h)
  generalize idxGo p 0 h = v at *
  have HC := hide C
  clear C hf hcall
  go_enter Tryd.func48, Tryd.ntmps48
  go_wp2_with fail
  refine (unhide HC).mono ?_
  rintro e w1 ⟨rfl, hb1⟩
  go_wp2
  go_ret
  exact ⟨ret_bool HA.out, hb1⟩
set_option maxHeartbeats 400000 in
theorem indexFunc_deal (A : Option Addr) (n cap : Nat) (g : Int → Nat) (h : List Int) (F : FuncId) (caps : Array Value) (p : Int → Bool) (w : World) (hr : Rd w w.heap.size 1 A n (h.map fun t => .pointer (some ⟨g t, 0, none⟩))) (hm : n ≤ 6000000000000)
    (hcall : ∀ (args : Array Value) (w : World), (callFunc F args).run Tryd.prog w = .ok (.enter F args) w)
    (hf : ∀ o ∈ h, ∀ w', Below w.heap.size w w' → Calls Tryd.prog F (#[.pointer (some ⟨g o, 0, none⟩)] ++ caps) w' fun e w'' => e = .returned (.bool (p o)) ∧ Below w'.heap.size w' w'') :
    Calls Tryd.prog 67 #[.slice A n cap, .func (.func F) #[] caps] w fun e w' => e = .returned (.int .i64 (idxGo p 0 h)) ∧ Below w.heap.size w w' := by
  have hl := hr.plen
  have HL := Lib.hid hl
  have HF := Lib.hid hf
  clear hl hf
  go_enter Tryd.func67, Tryd.ntmps67
  go_wp2
  go_loopw [8] (fun i wr => ∃ k : Nat, k ≤ n ∧ i = .int .i64 k ∧ Hid (idxGo p 0 h = idxGo p k (h.drop k)) ∧ Below w.heap.size w wr) (fun i _ => n - (intOf i).toNat)
  case atStart => exact ⟨0, Nat.zero_le _, rfl, rfl, Below.refl _ _⟩
  case round =>
    obtain ⟨k, hk, rfl, HE, hbw⟩ := hrel
    by_cases hlt : k < n
    · obtain ⟨b, off, o, he, hb, ho, c0⟩ := (hr.below hbw).ptr (k := k) (by omega)
      cases he
      have HO := Lib.hid (drop_at ho)
      have hmem := Lib.hid (List.mem_of_getElem? ho)
      clear ho
      cases hP : p o
      · have HE2 : Hid (idxGo p 0 h = idxGo p (k + 1) (h.drop (k + 1))) := Lib.hid (by rw [HE.out, HO.out]; simp [idxGo, hP])
        go_wp2_with fail
        refine (HF.out o hmem.out wr hbw).mono ?_
        rintro e w1 ⟨rfl, hb1⟩
        rw [hP]
        go_wp2
        go_roundw
        case rel => exact ⟨k + 1, by omega, by go_num, HE2, hbw.trans (hb1.mono hbw.size)⟩
        case measure => simp [intOf]; omega
      · have HE2 : Hid (idxGo p 0 h = k) := Lib.hid (by rw [HE.out, HO.out]; simp [idxGo, hP])
        go_wp2_with fail
        refine (HF.out o hmem.out wr hbw).mono ?_
        rintro e w1 ⟨rfl, hb1⟩
        rw [hP]
        go_wp2
        go_ret
        exact ⟨ret_int HE2.out.symm, hbw.trans (hb1.mono hbw.size)⟩
    · have HE2 : Hid (idxGo p 0 h = -1) := Lib.hid (by rw [HE.out, drop_end (by rw [HL.out]; omega)]; rfl)
      go_wp2
      go_ret
      exact ⟨ret_int HE2.out.symm, hbw⟩
theorem containsFunc_deal (A : Option Addr) (n cap : Nat) (g : Int → Nat) (h : List Int) (F : FuncId) (caps : Array Value) (p : Int → Bool) (w : World) (hr : Rd w w.heap.size 1 A n (h.map fun t => .pointer (some ⟨g t, 0, none⟩))) (hm : n ≤ 6000000000000)
    (hcall : ∀ (args : Array Value) (w : World), (callFunc F args).run Tryd.prog w = .ok (.enter F args) w)
    (hf : ∀ o ∈ h, ∀ w', Below w.heap.size w w' → Calls Tryd.prog F (#[.pointer (some ⟨g o, 0, none⟩)] ++ caps) w' fun e w'' => e = .returned (.bool (p o)) ∧ Below w'.heap.size w' w'') :
    Calls Tryd.prog 46 #[.slice A n cap, .func (.func F) #[] caps] w fun e w' => e = .returned (.bool (h.any p)) ∧ Below w.heap.size w w' := by
  have C := indexFunc_deal A n cap g h F caps p w hr hm hcall hf
  have HA := Lib.hid (idxGo_any p h)
  generalize idxGo p 0 h = v at *
  have HC := hide C
  clear C hf hcall
  go_enter Tryd.func46, Tryd.ntmps46
  go_wp2_with fail
  refine (unhide HC).mono ?_
  rintro e w1 ⟨rfl, hb1⟩
  go_wp2
  go_ret
  exact ⟨ret_bool HA.out, hb1⟩

/-- The types of this program's runs. -/
def vT (tk tl : TypeId) : VTy := ⟨56, 72, 3, 52, tk, tl⟩

/-! ### Since. -/
theorem call_since1 (args : Array Value) (w : World) : (callFunc 47 args).run Tryd.prog w = .ok (.enter 47 args) w := by kernel_rfl
set_option maxHeartbeats 1000000 in
theorem since1_any (g3 g5 gd : Nat) (c0 c1 ended began : Int) (c3 c5 : Value) (A : Option Addr) (n c : Nat) (l : List Int) (F : FuncId) (pre caps : Array Value) (p : Int → Bool) (w : World) (h3 : Blk w g3 3 [.int .i64 began]) (t5 : TypeId) (h5 : Blk w g5 t5 [.func (.func F) pre caps])
    (hd : Blk w gd 56 [.int .i64 c0, .int .i64 c1, .int .i64 ended, c3, .slice A n c, c5]) (hr : Rd w w.heap.size 1 A n (cellsI l)) (hm : n ≤ 1000000)
    (hcall : ∀ (args : Array Value) (w : World), (callFunc F args).run Tryd.prog w = .ok (.enter F args) w)
    (hf : ∀ o ∈ l, ∀ w', Below w.heap.size w w' → Calls Tryd.prog F (pre ++ #[.int .i64 o] ++ caps) w' fun e w'' => e = .returned (.bool (p o)) ∧ Below w'.heap.size w' w'') :
    Calls Tryd.prog 47 #[.pointer (some ⟨gd, 0, none⟩), .pointer (some ⟨g3, 0, none⟩), .pointer (some ⟨g5, 0, none⟩)] w fun e w' => e = .returned (.bool (decide (ended > began) && l.any p)) ∧ Below w.heap.size w w' := by
  have e0 := h3.cellS (i := 0) (v := .int .i64 began) rfl
  have e1 := h5.cellS (i := 0) (v := .func (.func F) pre caps) rfl
  have e2 := hd.cellS (i := 2) (v := .int .i64 ended) rfl
  have e4 := hd.cellS (i := 4) (v := .slice A n c) rfl
  by_cases hgt : ended > began
  · have C := hide (containsFunc_intB A n c l F pre caps p w.drew hr (by omega) hcall (fun o ho w' hb => hf o ho w' (((Below.refl w.heap.size w).drew).trans hb)))
    have t1 : decide (ended > began) = true := decide_eq_true hgt
    rw [t1, Bool.true_and]
    generalize l.any p = q at *
    have hb0 : Below w.heap.size w w.drew := (Below.refl _ _).drew
    have h3' := hide h3
    have h5' := hide h5
    have hd' := hide hd
    clear hcall hf hr h3 h5 hd hgt
    go_enter Tryd.func47, Tryd.ntmps47
    go_wp2
    go_region_held3 (fun w' => w'.cell? ⟨g3, 0, none⟩ = some (.int .i64 began) ∧ w'.cell? ⟨g5, 0, none⟩ = some (.func (.func F) pre caps) ∧ w'.cell? ⟨gd, 2, none⟩ = some (.int .i64 ended) ∧ w'.cell? ⟨gd, 4, none⟩ = some (.slice A n c)) (first | exact ⟨e0, e1, e2, e4⟩ | exact hcc | go_keep)
      (first | (go_at_call 48; (with_reducible refine (unhide C).mono ?_); rintro e w2 ⟨rfl, hb2⟩; have hbw2 := hb0.trans (hb2.mono (Nat.le_refl _)); have hcc : w2.cell? ⟨g3, 0, none⟩ = some (.int .i64 began) ∧ w2.cell? ⟨g5, 0, none⟩ = some (.func (.func F) pre caps) ∧ w2.cell? ⟨gd, 2, none⟩ = some (.int .i64 ended) ∧ w2.cell? ⟨gd, 4, none⟩ = some (.slice A n c) := ⟨((unhide h3').below hbw2 (unhide h3').lt).cellS rfl, ((unhide h5').below hbw2 (unhide h5').lt).cellS rfl, ((unhide hd').below hbw2 (unhide hd').lt).cellS rfl, ((unhide hd').below hbw2 (unhide hd').lt).cellS rfl⟩))
    go_wp2
    go_ret
    exact ⟨rfl, hbw2⟩
  · have t1 : decide (ended > began) = false := decide_eq_false hgt
    rw [t1, Bool.false_and]
    clear hcall hf hr h3 h5 hd hgt
    go_enter Tryd.func47, Tryd.ntmps47
    go_wp2
    go_quiet (fail)
    go_wp2
    go_ret
    exact ⟨rfl, below_drewN (Below.refl _ _) _⟩
/-- Since, in a run's heap. -/
theorem since_any {tk tl : TypeId} {lo : Nat} {s : VSt} {L : VLay} {tag : Nat → Int × Nat} {k0 : Nat} (w : World) (H : VHeap (vT tk tl) lo w s L tag) (hk : VOk k0 s) (hk0 : k0 ≤ 1000) (began : Int) (F : FuncId) (pre caps : Array Value) (p : Int → Bool)
    (hcall : ∀ (args : Array Value) (w : World), (callFunc F args).run Tryd.prog w = .ok (.enter F args) w)
    (hf : ∀ (o : Int) (w' : World), Below w.heap.size w w' → Calls Tryd.prog F (pre ++ #[.int .i64 o] ++ caps) w' fun e w'' => e = .returned (.bool (p o)) ∧ Below w'.heap.size w' w'') :
    Calls Tryd.prog 22 #[.int .i64 began, L.vd, .func (.func F) pre caps] w fun e w' => e = .returned (.bool (sinceD began (doneD s) p)) ∧ Below w.heap.size w w' := by
  obtain ⟨Ad, cd, hvd⟩ := own_slice H.done
  have HR : Hid (sinceD began (doneD s) p = s.dn.any fun t => decide (((dget s.ds t).getD ⟨t, 0, 0, [], [], []⟩).ended > began) && ((dget s.ds t).getD ⟨t, 0, 0, [], [], []⟩).wrote.any p) := Lib.hid (by
    unfold sinceD doneD
    rw [List.any_map]
    rfl)
  have hb1 : Below w.heap.size w ((w.alloc (.cells #[.int .i64 began] 3)).alloc (.cells #[.func (.func F) pre caps] 57)) := ((Below.refl _ _).alloc (Nat.le_refl _) _).alloc (by simp) _
  have g3 : Blk ((w.alloc (.cells #[.int .i64 began] 3)).alloc (.cells #[.func (.func F) pre caps] 57)) w.heap.size 3 [.int .i64 began] := (Blk.new w 3 [.int .i64 began]).alloc _
  have g5 : Blk ((w.alloc (.cells #[.int .i64 began] 3)).alloc (.cells #[.func (.func F) pre caps] 57)) (w.heap.size + 1) 57 [.func (.func F) pre caps] := by
    have := Blk.new (w.alloc (.cells #[.int .i64 began] 3)) 57 [.func (.func F) pre caps]
    simpa using this
  generalize hW : (w.alloc (.cells #[.int .i64 began] 3)).alloc (.cells #[.func (.func F) pre caps] 57) = W at hb1 g3 g5
  have HW := H.below hb1
  have C := hide (containsFunc_deal Ad s.dn.length cd L.g s.dn 47 #[.pointer (some ⟨w.heap.size, 0, none⟩), .pointer (some ⟨w.heap.size + 1, 0, none⟩)] (fun t => decide (((dget s.ds t).getD ⟨t, 0, 0, [], [], []⟩).ended > began) && ((dget s.ds t).getD ⟨t, 0, 0, [], [], []⟩).wrote.any p) W (by
      have := HW.done
      rw [hvd] at this
      exact rd_own this) (by have := hk.dn; omega) call_since1 (fun t ht w' hb => by
      obtain ⟨d, hd, hdt⟩ := List.mem_map.1 (H.sub t ht)
      have hg : dget s.ds t = some d := by rw [← hdt]; exact dget_mem H.nodup hd
      rw [hg, Option.getD_some]
      have hD := (HW.below hb).deals d hd
      obtain ⟨Aw, cw, hvw⟩ := own_slice hD.wrote
      have hB := hD.blk
      rw [hvw] at hB
      have hw := hD.wrote
      rw [hvw] at hw
      have hdok := hk.deals d hd
      have h1 := since1_any w.heap.size (w.heap.size + 1) (L.g d.tx) d.tx d.began d.ended began (L.vs d.tx) (L.vp d.tx) Aw d.wrote.length cw d.wrote F pre caps p w' (g3.below hb g3.lt) 57 (g5.below hb g5.lt) hB (rd_own hw) (by have := hdok.wrote; omega) hcall (fun o _ w2 hb2 => hf o w2 (hb1.trans ((hb.mono hb1.size).trans (hb2.mono (Nat.le_trans hb1.size hb.size)))))
      rw [hdt] at h1
      exact h1))
  rw [← HR.out] at C
  rw [hvd]
  have hbW := hb1
  clear hf hcall HW g3 g5 hb1 H hk hvd
  generalize sinceD began (doneD s) p = R at *
  subst hW
  go_enter Tryd.func22, Tryd.ntmps22
  go_wp2_with fail
  refine (unhide C).mono ?_
  rintro e w2 ⟨rfl, hb2⟩
  go_wp2
  go_ret
  exact ⟨rfl, hbW.trans (hb2.mono hbW.size)⟩
end Go.Proofs.YtigmgeaimcglhaaDoor
