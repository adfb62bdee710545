
/-
  CONTRACTS of locks.odds, right, free, of and their tests. A lock is held as an HOp: deal, item, mode (the fields in their places: tx, what, item).
-/
import Derived.Test.YtjbgjgmdgjnbfaaDoorN0
import Derived.Test.YtjbgjgmdgjnbfaaDoorSame
import Derived.BigQuiet
import Derived.Handy

namespace Go.Proofs.YtjbgjgmdgjnbfaaDoor
open Go.RowKit

def lrightB (o : HOp) : Bool := txB o.tx && (txB o.what && decide (o.item = 1 ∨ o.item = 2))
def loddsB (a b : HOp) : Bool := decide (a.tx ≠ b.tx ∧ a.what = b.what ∧ (a.item = 2 ∨ b.item = 2))

theorem lodds_any (a b : HOp) (w : World) : Calls Tryd.prog 45 #[a.val, b.val] w fun e w' => e = .returned (.bool (loddsB a b)) ∧ Below w.heap.size w w' := by
  obtain ⟨x1, x2, x3⟩ := a
  obtain ⟨y1, y2, y3⟩ := b
  unfold HOp.val
  go_enter Tryd.func45, Tryd.ntmps45
  go_wp2
  all_goals
    go_ret
    refine ⟨ret_bool ?_, ((Below.refl _ _).alloc (Nat.le_refl _) _).alloc (by simp) _⟩
    rw [Bool.eq_iff_iff]
    simp_all [loddsB] <;> omega

theorem lright_any (o : HOp) (w : World) : Calls Tryd.prog 23 #[o.val] w fun e w' => e = .returned (.bool (lrightB o)) ∧ Below w.heap.size w w' := by
  obtain ⟨tx, what, item⟩ := o
  unfold HOp.val
  have hi : item = 1 ∨ item = 2 ∨ ((item == 1) = false ∧ (item == 2) = false ∧ item ≠ 1 ∧ item ≠ 2) := by
    by_cases h1 : item = 1
    · exact .inl h1
    · by_cases h2 : item = 2
      · exact .inr (.inl h2)
      · exact .inr (.inr ⟨by simpa using h1, by simpa using h2, h1, h2⟩)
  cases hT : txB tx
  · go_enter Tryd.func23, Tryd.ntmps23
    go_wp2_with (go_at_call 36; refine (tx_any _ _).mono ?_; rintro e w' ⟨rfl, rfl⟩; rw [hT])
    go_ret
    exact ⟨ret_bool (by simp [lrightB, hT]), (Below.refl _ _).alloc (Nat.le_refl _) _⟩
  cases hI : txB what
  · go_enter Tryd.func23, Tryd.ntmps23
    go_wp2_with (first
      | (go_at_call 36; refine (tx_any _ _).mono ?_; rintro e w' ⟨rfl, rfl⟩; rw [hT])
      | (go_at_call 37; refine (item_any _ _).mono ?_; rintro e w' ⟨rfl, rfl⟩; rw [hI]))
    go_ret
    exact ⟨ret_bool (by simp [lrightB, hI]), (Below.refl _ _).alloc (Nat.le_refl _) _⟩
  rcases hi with rfl | rfl | ⟨h1, h2, h3, h4⟩
  all_goals
    go_enter Tryd.func23, Tryd.ntmps23
    go_wp2_with (first
      | (go_at_call 36; refine (tx_any _ _).mono ?_; rintro e w' ⟨rfl, rfl⟩; rw [hT])
      | (go_at_call 37; refine (item_any _ _).mono ?_; rintro e w' ⟨rfl, rfl⟩; rw [hI]))
    go_ret
    exact ⟨ret_bool (by simp_all [lrightB]), (Below.refl _ _).alloc (Nat.le_refl _) _⟩

theorem idxGo_any' {α : Type} (p : α → Bool) (h : List α) : decide (0 ≤ idxGo p 0 h) = h.any p := by
  rcases idxGo_spec p 0 h with ⟨h1, h2⟩ | ⟨i, o, h1, h2, h3, h4⟩
  · rw [h2]
    have : h.any p = false := by rw [List.any_eq_false]; intro x hx; simp [h1 x hx]
    rw [this]; rfl
  · rw [h4]
    have : h.any p = true := List.any_eq_true.2 ⟨o, List.mem_of_getElem? h1, h2⟩
    rw [this]; simp
theorem slt_lock : SlT Tryd.prog 52 60 3 24 := slt_of (z := .agg #[.int .i64 0, .int .i64 0, .int .i64 0]) Tryd.underlying52 (by kernel_rfl) (by kernel_rfl) (by decide) (by decide)

set_option maxHeartbeats 400000 in
theorem indexFunc_lock (A : Option Addr) (n cap : Nat) (h : List HOp) (F : FuncId) (caps : Array Value) (p : HOp → Bool) (w : World) (hr : Rd w w.heap.size 3 A n (cellsH h)) (hm : n ≤ 6000000000000)
    (hcall : ∀ (args : Array Value) (w : World), (callFunc F args).run Tryd.prog w = .ok (.enter F args) w)
    (hf : ∀ o ∈ h, ∀ w', Below w.heap.size w w' → Calls Tryd.prog F (#[o.val] ++ caps) w' fun e w'' => e = .returned (.bool (p o)) ∧ Below w'.heap.size w' w'') :
    Calls Tryd.prog 40 #[.slice A n cap, .func (.func F) #[] caps] w fun e w' => e = .returned (.int .i64 (idxGo p 0 h)) ∧ Below w.heap.size w w' := by
  have hl := hr.hlen
  have HL := Lib.hid hl
  have HF := Lib.hid hf
  clear hl hf
  go_enter Tryd.func40, Tryd.ntmps40
  go_wp2
  go_loopw [8] (fun i wr => ∃ k : Nat, k ≤ n ∧ i = .int .i64 k ∧ Hid (idxGo p 0 h = idxGo p k (h.drop k)) ∧ Below w.heap.size w wr) (fun i _ => n - (intOf i).toNat)
  case atStart => exact ⟨0, Nat.zero_le _, rfl, rfl, Below.refl _ _⟩
  case round =>
    obtain ⟨k, hk, rfl, HE, hbw⟩ := hrel
    by_cases hlt : k < n
    · obtain ⟨b, off, o, he, hb, ho, c0, c1, c2⟩ := (hr.below hbw).op (k := k) (by omega)
      cases he
      have HO := Lib.hid (drop_at ho)
      have hmem := Lib.hid (List.mem_of_getElem? ho)
      clear ho
      cases hP : p o
      · have HE2 : Hid (idxGo p 0 h = idxGo p (k + 1) (h.drop (k + 1))) := Lib.hid (by rw [HE.out, HO.out]; simp [idxGo, hP])
        go_wp2_with fail
        refine (HF.out o hmem.out wr hbw).mono ?_
        rintro e w1 ⟨rfl, hb1⟩
        rw [hP]
        go_wp2
        go_roundw
        case rel => exact ⟨k + 1, by omega, by go_num, HE2, hbw.trans (hb1.mono hbw.size)⟩
        case measure => simp [intOf]; omega
      · have HE2 : Hid (idxGo p 0 h = k) := Lib.hid (by rw [HE.out, HO.out]; simp [idxGo, hP])
        go_wp2_with fail
        refine (HF.out o hmem.out wr hbw).mono ?_
        rintro e w1 ⟨rfl, hb1⟩
        rw [hP]
        go_wp2
        go_ret
        exact ⟨ret_int HE2.out.symm, hbw.trans (hb1.mono hbw.size)⟩
    · have HE2 : Hid (idxGo p 0 h = -1) := Lib.hid (by rw [HE.out, drop_end (by rw [HL.out]; omega)]; rfl)
      go_wp2
      go_ret
      exact ⟨ret_int HE2.out.symm, hbw⟩
theorem containsFunc_lock (A : Option Addr) (n cap : Nat) (h : List HOp) (F : FuncId) (caps : Array Value) (p : HOp → Bool) (w : World) (hr : Rd w w.heap.size 3 A n (cellsH h)) (hm : n ≤ 6000000000000)
    (hcall : ∀ (args : Array Value) (w : World), (callFunc F args).run Tryd.prog w = .ok (.enter F args) w)
    (hf : ∀ o ∈ h, ∀ w', Below w.heap.size w w' → Calls Tryd.prog F (#[o.val] ++ caps) w' fun e w'' => e = .returned (.bool (p o)) ∧ Below w'.heap.size w' w'') :
    Calls Tryd.prog 43 #[.slice A n cap, .func (.func F) #[] caps] w fun e w' => e = .returned (.bool (h.any p)) ∧ Below w.heap.size w w' := by
  have C := indexFunc_lock A n cap h F caps p w hr hm hcall hf
  have HA := Lib.hid (idxGo_any' p h)
  generalize idxGo p 0 h = v at *
  have HC := hide C
  clear C hf hcall
  go_enter Tryd.func43, Tryd.ntmps43
  go_wp2_with fail
  refine (unhide HC).mono ?_
  rintro e w1 ⟨rfl, hb1⟩
  go_wp2
  go_ret
  exact ⟨ret_bool HA.out, hb1⟩
set_option maxRecDepth 100000 in
set_option maxHeartbeats 1000000 in
theorem deleteFunc_lock (A : Option Addr) (n cap base : Nat) (h : List HOp) (F : FuncId) (caps : Array Value) (p : HOp → Bool) (w : World) (hown : w.ownsRow base 60 3 (.slice A n cap) n (cellsH h)) (hbase : base ≤ w.heap.size) (hm : n ≤ 6000000000000)
    (hcall : ∀ (args : Array Value) (w : World), (callFunc F args).run Tryd.prog w = .ok (.enter F args) w)
    (hf : ∀ o ∈ h, ∀ w', Below base w w' → Calls Tryd.prog F (#[o.val] ++ caps) w' fun e w'' => e = .returned (.bool (p o)) ∧ Below w'.heap.size w' w'') :
    Calls Tryd.prog 39 #[.slice A n cap, .func (.func F) #[] caps] w fun e w' => ∃ m, e = .returned (.slice A m cap) ∧ w'.ownsRow base 60 3 (.slice A m cap) m (cellsH (h.filter fun o => !p o)) ∧ Below base w w' := by
  have hl := (rd_own hown).hlen
  have HL := Lib.hid hl
  have C := indexFunc_lock A n cap h F caps p w (rd_own hown) hm hcall (fun o ho w' hw => hf o ho w' (hw.mono hbase))
  have HF := Lib.hid hf
  rcases idxGo_spec p 0 h with ⟨hno, hi⟩ | ⟨i0, o0, ho0, hp0, hno, hi⟩
  · rw [hi] at C
    have HC := hide C
    have HQ : Hid (h.filter (fun o => !p o) = h) := Lib.hid (List.filter_eq_self.2 fun o ho => by rw [hno o ho]; rfl)
    clear hl hf C hi hno
    go_enter Tryd.func39, Tryd.ntmps39
    go_wp2_with fail
    refine (unhide HC).mono ?_
    rintro e w1 ⟨rfl, hb1⟩
    go_wp2
    go_ret
    exact ⟨n, rfl, by rw [HQ.out]; exact own_below hown hb1 (Nat.le_refl _), hb1.mono hbase⟩
  · have hi0 : i0 < n := by rw [← hl]; exact (List.getElem?_eq_some_iff.1 ho0).1
    obtain ⟨g, rfl⟩ : ∃ g, A = some ⟨g, 0, none⟩ := by
      rcases hown.2 with ⟨_, h0⟩ | ⟨g, _, _, hv, _⟩
      · omega
      · injection hv with hA; exact ⟨g, hA⟩
    have hgb : base ≤ g ∧ g < w.heap.size := hown.lt g rfl
    have hncap : n ≤ cap := by
      rcases hown.2 with ⟨_, h0⟩ | ⟨_, _, _, hv, _, _, hnc, _⟩
      · omega
      · injection hv with _ _ hc; omega
    have HI : Hid ((h.take (i0 + 1)).filter (fun o => !p o) = h.take i0) := Lib.hid (by
      rw [List.take_succ_eq_append_getElem (List.getElem?_eq_some_iff.1 ho0).1, List.filter_append, (List.getElem?_eq_some_iff.1 ho0).2]
      rw [List.filter_eq_self.2 fun o ho => by rw [hno o ho]; rfl]
      simp [hp0])
    rw [Int.zero_add] at hi
    rw [hi] at C
    have HC := hide C
    clear hl hf C hi hno ho0 hp0
    have hne : ((i0 : Int) == -1) = false := by rw [beq_eq_false_iff_ne]; omega
    go_enter Tryd.func39, Tryd.ntmps39
    go_wp2_with fail
    refine (unhide HC).mono ?_
    rintro e w1 ⟨rfl, hb1⟩
    go_wp2
    clear hne
    have hown1 := own_below hown hb1 (Nat.le_refl _)
    have hbw1 : Below base w w1 := hb1.mono hbase
    clear hb1 hown
    go_loopw [5, 6] (fun s5 s6 wr => ∃ (i j : Nat) (L : List HOp), i < j ∧ j ≤ n ∧ s5 = .int .i64 i ∧ s6 = .int .i64 j ∧ wr.ownsRow base 60 3 (.slice (some ⟨g, 0, none⟩) n cap) n (cellsH L) ∧ Hid (L.length = n ∧ L.take i = (h.take j).filter (fun o => !p o) ∧ L.drop j = h.drop j) ∧ Below base w wr)
      (fun _ s6 _ => n - (intOf s6).toNat)
    case atStart => exact ⟨i0, i0 + 1, h, by omega, by omega, rfl, by go_num, hown1, ⟨HL.out, HI.out.symm, rfl⟩, hbw1⟩
    case round =>
      obtain ⟨i, j, L, hij, hj, rfl, rfl, hownr, HK, hbw⟩ := hrel
      have hgr : g < wr.heap.size := (hownr.lt g rfl).2
      by_cases hlt : j < n
      · obtain ⟨b, off, o, he, hb, ho, c0, c1, c2⟩ := (rd_own hownr).op (k := j) (by omega)
        cases he
        simp only [Nat.zero_add] at c0 c1 c2
        have HO : Hid (h[j]? = some o ∧ o ∈ h) := by
          have : h[j]? = some o := by
            have h1 := congrArg (fun l => l[0]?) HK.out.2.2
            simpa [ho] using h1.symm
          exact ⟨this, List.mem_of_getElem? this⟩
        clear ho
        have D0 : ∃ v, wr.cell? ⟨g, i * 3, none⟩ = some v := ⟨_, (hownr.cellAt (i * 3) (by omega)).trans (List.getElem?_eq_getElem (by rw [hownr.1]; omega))⟩
        have D1 : ∃ v, wr.cell? ⟨g, i * 3 + 1, none⟩ = some v := ⟨_, (hownr.cellAt (i * 3 + 1) (by omega)).trans (List.getElem?_eq_getElem (by rw [hownr.1]; omega))⟩
        have D2 : ∃ v, wr.cell? ⟨g, i * 3 + 2, none⟩ = some v := ⟨_, (hownr.cellAt (i * 3 + 2) (by omega)).trans (List.getElem?_eq_getElem (by rw [hownr.1]; omega))⟩
        obtain ⟨x0, d0⟩ := D0
        obtain ⟨x1, d1⟩ := D1
        obtain ⟨x2, d2⟩ := D2
        have f0 := hownr.frozenAt (i * 3)
        have f1 := hownr.frozenAt (i * 3 + 1)
        have f2 := hownr.frozenAt (i * 3 + 2)
        cases hP : p o
        · go_wp2_with fail
          refine (HF.out o HO.out.2 _ (hbw.alloc (by omega) _)).mono ?_
          rintro e w2 ⟨rfl, hb2⟩
          rw [hP]
          obtain ⟨hc2, hf2⟩ := bcell hb2
          have HK2 : Hid ((L.set i o).length = n ∧ (L.set i o).take (i + 1) = (h.take (j + 1)).filter (fun o => !p o) ∧ (L.set i o).drop (j + 1) = h.drop (j + 1)) := by
            refine ⟨by simp [HK.out.1], ?_, ?_⟩
            · rw [List.take_add_one, List.take_add_one, HO.out.1, List.take_set_of_le (Nat.le_refl _), HK.out.2.1, List.getElem?_set_self (by rw [HK.out.1]; omega)]; simp [hP]
            · rw [List.drop_set_of_lt (by omega)]
              have := congrArg (List.drop 1) HK.out.2.2; simpa [List.drop_drop, Nat.add_comm] using this
          have HOW := Lib.hid (own_set3 (own_below (hownr.alloc (.cells #[.int .i64 o.tx, .int .i64 o.what, .int .i64 o.item] 60)) hb2 (Nat.le_refl _)) i o)
          have HBW : Below base w w2 := (hbw.alloc (by omega) _).trans (hb2.mono (by simp; omega))
          go_wp2
          go_roundw
          case rel => exact ⟨i + 1, j + 1, L.set i o, by omega, by omega, by go_num, by go_num, HOW.out, HK2, ((HBW.setCell hgb.1 _).setCell hgb.1 _).setCell hgb.1 _⟩
          case measure => simp [intOf]; omega
        · go_wp2_with fail
          refine (HF.out o HO.out.2 _ (hbw.alloc (by omega) _)).mono ?_
          rintro e w2 ⟨rfl, hb2⟩
          rw [hP]
          have HK2 : Hid (L.length = n ∧ L.take i = (h.take (j + 1)).filter (fun o => !p o) ∧ L.drop (j + 1) = h.drop (j + 1)) := by
            refine ⟨HK.out.1, ?_, ?_⟩
            · rw [List.take_add_one, HO.out.1]; simp [hP, HK.out.2.1]
            · have := congrArg (List.drop 1) HK.out.2.2; simpa [List.drop_drop, Nat.add_comm] using this
          go_wp2
          go_roundw
          case rel => exact ⟨i, j + 1, L, by omega, by omega, rfl, by go_num, own_below (hownr.alloc _) hb2 (Nat.le_refl _), HK2, (hbw.alloc (by omega) _).trans (hb2.mono (by simp; omega))⟩
          case measure => simp [intOf]; omega
      · have HK2 : Hid (cellsH (h.filter fun o => !p o) = (cellsH L).take (i * 3)) := by
          have h1 : L.take i = h.filter fun o => !p o := by
            have := HK.out.2.1
            rwa [List.take_of_length_le (l := h) (by rw [HL.out]; omega)] at this
          rw [← h1]
          exact Lib.hid (cellsH_take L i).symm
        
        go_wp2_with ((with_reducible show wpList _ _ _ _ _ _); refine wpList_clear (base := base) rfl (.tmp 38) _ rfl slt_lock hownr (i := i) (by omega) rfl (fun _ => rfl) ?_; intro w3 hown3 hg3)
        go_ret
        exact ⟨i, rfl, by rw [HK2.out]; exact hown3, hbw.grown hg3 (by have := hbw.size; omega) (fun k hk => by cases hk; exact hgb.1)⟩

/-! ### The tests that catch variables. -/
theorem free1_any (y x : HOp) (gx : Nat) (w : World) (hB : Blk w gx 60 [.int .i64 x.tx, .int .i64 x.what, .int .i64 x.item]) :
    Calls Tryd.prog 44 #[y.val, .pointer (some ⟨gx, 0, none⟩)] w fun e w' => e = .returned (.bool (loddsB x y)) ∧ Below w.heap.size w w' := by
  obtain ⟨y1, y2, y3⟩ := y
  obtain ⟨x1, x2, x3⟩ := x
  have hlt := hB.lt
  have c0 := hB.cellS (i := 0) (v := .int .i64 x1) rfl
  have c1 := hB.cellS (i := 1) (v := .int .i64 x2) rfl
  have c2 := hB.cellS (i := 2) (v := .int .i64 x3) rfl
  have C := hide (fun w1 => lodds_any ⟨x1, x2, x3⟩ ⟨y1, y2, y3⟩ w1)
  unfold HOp.val at C ⊢
  go_enter Tryd.func44, Tryd.ntmps44
  go_wp2_with fail
  refine (unhide C _).mono ?_
  rintro e w1 ⟨rfl, hb1⟩
  have hbw := ((Below.refl w.heap.size w).alloc (Nat.le_refl _) _).trans (hb1.mono (by simp))
  go_wp2
  go_ret
  exact ⟨rfl, hbw⟩
theorem waiting1_any (y : HOp) (gx : Nat) (tx : Int) (w : World) (hB : Blk w gx 3 [.int .i64 tx]) :
    Calls Tryd.prog 41 #[y.val, .pointer (some ⟨gx, 0, none⟩)] w fun e w' => e = .returned (.bool (decide (y.tx = tx))) ∧ Below w.heap.size w w' := by
  obtain ⟨y1, y2, y3⟩ := y
  have hlt := hB.lt
  have c0 := hB.cellS (i := 0) (v := .int .i64 tx) rfl
  unfold HOp.val
  go_enter Tryd.func41, Tryd.ntmps41
  go_wp2
  go_ret
  exact ⟨rfl, (Below.refl w.heap.size w).alloc (Nat.le_refl _) _⟩
theorem free2_any (y : HOp) (gx : Nat) (tx : Int) (w : World) (hB : Blk w gx 3 [.int .i64 tx]) :
    Calls Tryd.prog 38 #[y.val, .pointer (some ⟨gx, 0, none⟩)] w fun e w' => e = .returned (.bool (decide (y.tx = tx))) ∧ Below w.heap.size w w' := by
  obtain ⟨y1, y2, y3⟩ := y
  have hlt := hB.lt
  have c0 := hB.cellS (i := 0) (v := .int .i64 tx) rfl
  unfold HOp.val
  go_enter Tryd.func38, Tryd.ntmps38
  go_wp2
  go_ret
  exact ⟨rfl, (Below.refl w.heap.size w).alloc (Nat.le_refl _) _⟩
theorem of1_any (y : HOp) (g1 g2 : Nat) (tx item : Int) (w : World) (hB : Blk w g1 3 [.int .i64 tx]) (hC : Blk w g2 3 [.int .i64 item]) :
    Calls Tryd.prog 42 #[y.val, .pointer (some ⟨g1, 0, none⟩), .pointer (some ⟨g2, 0, none⟩)] w fun e w' => e = .returned (.bool (decide (y.tx = tx) && decide (y.what = item))) ∧ Below w.heap.size w w' := by
  obtain ⟨y1, y2, y3⟩ := y
  have hlt := hB.lt
  have hlt2 := hC.lt
  have c0 := hB.cellS (i := 0) (v := .int .i64 tx) rfl
  have c1 := hC.cellS (i := 0) (v := .int .i64 item) rfl
  unfold HOp.val
  by_cases h1 : y1 = tx
  · subst h1
    go_enter Tryd.func42, Tryd.ntmps42
    go_wp2
    go_ret
    exact ⟨ret_bool (by rw [Bool.eq_iff_iff]; simp), (Below.refl w.heap.size w).alloc (Nat.le_refl _) _⟩
  · have h2 : (y1 == tx) = false := by simpa using h1
    go_enter Tryd.func42, Tryd.ntmps42
    go_wp2
    go_ret
    exact ⟨ret_bool (by simp [h1]), (Below.refl w.heap.size w).alloc (Nat.le_refl _) _⟩
theorem call_free1 (args : Array Value) (w : World) : (callFunc 44 args).run Tryd.prog w = .ok (.enter 44 args) w := by kernel_rfl
theorem call_waiting1 (args : Array Value) (w : World) : (callFunc 41 args).run Tryd.prog w = .ok (.enter 41 args) w := by kernel_rfl
theorem call_free2 (args : Array Value) (w : World) : (callFunc 38 args).run Tryd.prog w = .ok (.enter 38 args) w := by kernel_rfl
theorem call_of1 (args : Array Value) (w : World) : (callFunc 42 args).run Tryd.prog w = .ok (.enter 42 args) w := by kernel_rfl

/-! ### free, of. -/
def freeB (l : List HOp) (x : HOp) : Bool := !l.any (loddsB x)
def ofP (tx item : Int) (y : HOp) : Bool := decide (y.tx = tx) && decide (y.what = item)

set_option maxHeartbeats 400000 in
theorem lfree_any (A : Option Addr) (n c : Nat) (l : List HOp) (x : HOp) (w : World) (hr : Rd w w.heap.size 3 A n (cellsH l)) (hm : n ≤ 6000000000000) :
    Calls Tryd.prog 26 #[.slice A n c, x.val] w fun e w' => e = .returned (.bool (freeB l x)) ∧ Below w.heap.size w w' := by
  have C := hide (fun w1 F caps p (hb : Below w.heap.size w w1) => containsFunc_lock A n c l F caps p w1 ((hr.below hb).more hb.size) hm)
  obtain ⟨x1, x2, x3⟩ := x
  unfold HOp.val
  go_enter Tryd.func26, Tryd.ntmps26
  go_wp2_with fail
  have hb0 : Below w.heap.size w (w.alloc (.cells #[.int .i64 x1, .int .i64 x2, .int .i64 x3] 60)) := (Below.refl _ _).alloc (Nat.le_refl _) _
  have hB := Blk.new w 60 [.int .i64 x1, .int .i64 x2, .int .i64 x3]
  refine Calls.mono (unhide C _ 44 #[.pointer (some ⟨w.heap.size, 0, none⟩)] (loddsB ⟨x1, x2, x3⟩) hb0 call_free1 (fun y _ w' hw' => free1_any y ⟨x1, x2, x3⟩ w.heap.size w' (hB.below hw' (by simp)))) ?_
  rintro e w1 ⟨rfl, hb1⟩
  have hbw := hb0.trans (hb1.mono hb0.size)
  go_wp2
  go_ret
  exact ⟨rfl, hbw⟩

set_option maxHeartbeats 400000 in
theorem lof_any (A : Option Addr) (n c : Nat) (l : List HOp) (tx item : Int) (w : World) (hr : Rd w w.heap.size 3 A n (cellsH l)) (hm : n ≤ 6000000000000) :
    Calls Tryd.prog 25 #[.slice A n c, .int .i64 tx, .int .i64 item] w fun e w' => e = .returned (.int .i64 (idxGo (ofP tx item) 0 l)) ∧ Below w.heap.size w w' := by
  have C := hide (fun w1 F caps p (hb : Below w.heap.size w w1) => indexFunc_lock A n c l F caps p w1 ((hr.below hb).more hb.size) hm)
  go_enter Tryd.func25, Tryd.ntmps25
  go_wp2_with fail
  have hb0 : Below w.heap.size w ((w.alloc (.cells #[.int .i64 tx] 3)).alloc (.cells #[.int .i64 item] 3)) := ((Below.refl _ _).alloc (Nat.le_refl _) _).alloc (by simp) _
  have hB := (Blk.new w 3 [.int .i64 tx]).alloc (.cells #[.int .i64 item] 3)
  have hC : Blk ((w.alloc (.cells #[.int .i64 tx] 3)).alloc (.cells #[.int .i64 item] 3)) (w.heap.size + 1) 3 [.int .i64 item] := by simpa using Blk.new (w.alloc (.cells #[.int .i64 tx] 3)) 3 [.int .i64 item]
  refine Calls.mono (unhide C _ 42 #[.pointer (some ⟨w.heap.size, 0, none⟩), .pointer (some ⟨w.heap.size + 1, 0, none⟩)] (ofP tx item) hb0 call_of1 (fun y _ w' hw' => of1_any y w.heap.size (w.heap.size + 1) tx item w' (hB.below hw' (by simp; omega)) (hC.below hw' (by simp)))) ?_
  rintro e w1 ⟨rfl, hb1⟩
  have hbw := hb0.trans (hb1.mono hb0.size)
  go_wp2
  go_ret
  exact ⟨rfl, hbw⟩
end Go.Proofs.YtjbgjgmdgjnbfaaDoor
