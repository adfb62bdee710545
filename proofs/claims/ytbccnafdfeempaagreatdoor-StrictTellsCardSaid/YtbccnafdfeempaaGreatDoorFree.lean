
/-
  CONTRACT of locks.Free.
-/
import Derived.Test.YtbccnafdfeempaaGreatDoorQ15
import Derived.Test.YtbccnafdfeempaaGreatDoorLockP

namespace Go.Proofs.YtbccnafdfeempaaGreatDoor
open Go.RowKit

theorem own_cap {w : World} {base : Nat} {e : TypeId} {size : Nat} {A : Option Addr} {n c m : Nat} {xs : List Value} (h : w.ownsRow base e size (.slice A n c) m xs) : n = m ∧ m ≤ c := by
  rcases h.2 with ⟨hv, h0⟩ | ⟨g, cap, cur, hv, _, _, hnc, _⟩
  · injection hv with _ h1 h2; exact ⟨by omega, by omega⟩
  · injection hv with _ h1 h2; exact ⟨by omega, by omega⟩
/-- A row that was cut, at its old length: it holds something. -/
theorem own_long {w : World} {base : Nat} {e : TypeId} {size : Nat} {A : Option Addr} {m n c : Nat} {xs : List Value} (h : w.ownsRow base e size (.slice A m c) m xs) (hn : n ≤ c) : ∃ ys, w.ownsRow base e size (.slice A n c) n ys := by
  rcases h.2 with ⟨hv, h0⟩ | ⟨g, cap, cur, hv, hb, hh, hnc, hcm, hsz, _⟩
  · injection hv with e1 e2 e3
    subst e1 e3
    obtain rfl : n = 0 := by omega
    exact ⟨[], World.ownsRow_nil _ _ _ _⟩
  · injection hv with e1 e2 e3
    subst e1 e3
    refine ⟨cur.toList.take (n * size), ?_, .inr ⟨g, c, cur, rfl, hb, hh, hn, hcm, hsz, rfl⟩⟩
    rw [List.length_take, Array.length_toList, hsz]
    exact Nat.min_eq_left (Nat.mul_le_mul_right _ hn)
/-- Two rows of unlike blocks stay unlike when one grew. -/
theorem ne_grown {w : World} {base : Nat} {e : TypeId} {size : Nat} {v u u' : Value} {n : Nat} {xs : List Value} (hv : w.ownsRow base e size v n xs) (hne : ∀ k, v.ownBlock = some k → u.ownBlock ≠ some k) (hu : u'.ownBlock = u.ownBlock ∨ ∃ k, u'.ownBlock = some k ∧ w.heap.size ≤ k) : ∀ k, v.ownBlock = some k → u'.ownBlock ≠ some k := by
  intro k hk h
  rcases hu with e | ⟨j, e, hj⟩
  · exact hne k hk (e.symm.trans h)
  · rw [e] at h
    injection h with h
    have := (hv.lt k hk).2
    omega
theorem ne_comm' {v u : Value} (h : ∀ k, v.ownBlock = some k → u.ownBlock ≠ some k) : ∀ k, u.ownBlock = some k → v.ownBlock ≠ some k := fun k hk e => h k e hk
/-- A block of another type is no row's. -/
theorem blk_no_row {w : World} {base : Nat} {e t : TypeId} {size : Nat} {v : Value} {n g : Nat} {xs cs : List Value} (hB : Blk w g t cs) (h : w.ownsRow base e size v n xs) (hne : t ≠ e) : v.ownBlock ≠ some g := by
  intro hg
  rcases h.2 with ⟨rfl, _⟩ | ⟨g', cap, cur, rfl, _, hh, _⟩
  · cases hg
  · simp [Value.ownBlock] at hg
    subst hg
    unfold Blk at hB
    rw [hB] at hh
    injection hh with hh
    injection hh with _ ht
    exact hne ht

/-- What Free carries: the table, those that are left, those that are held by it. -/
structure FreeH (w wz wr : World) (lo g : Nat) (v10 v1 v2 : Value) (sH sL sO : List HOp) (nw : Nat) (vL vO : Value) : Prop where
  tab : ∃ ys, TabR wr lo g v1 v2 sH nw ys
  left : wr.ownsRow w.heap.size 67 3 vL sL.length (cellsH sL)
  out : wr.ownsRow w.heap.size 67 3 vO sO.length (cellsH sO)
  neLO : ∀ k, vL.ownBlock = some k → vO.ownBlock ≠ some k
  ne1L : ∀ k, v1.ownBlock = some k → vL.ownBlock ≠ some k
  ne1O : ∀ k, v1.ownBlock = some k → vO.ownBlock ≠ some k
  chg : Chg (fun k => k = g ∨ v10.ownBlock = some k ∨ v2.ownBlock = some k) w wr
  old : v1.ownBlock = v10.ownBlock ∨ ∃ k, v1.ownBlock = some k ∧ w.heap.size ≤ k
  lt2 : ∀ k, v2.ownBlock = some k → k < w.heap.size
  keep2 : ∀ k, v2.ownBlock = some k → wr.heap[k]? = wz.heap[k]?
section
variable {w wz wr wx : World} {lo g nw : Nat} {v10 v1 v2 vL vO : Value} {sH sL sO : List HOp}
theorem FreeH.held (h : FreeH w wz wr lo g v10 v1 v2 sH sL sO nw vL vO) : wr.ownsRow lo 67 3 v1 sH.length (cellsH sH) := by obtain ⟨ys, T⟩ := h.tab; exact T.held
theorem FreeH.blk (h : FreeH w wz wr lo g v10 v1 v2 sH sL sO nw vL vO) : Blk wr g 72 [v1, v2] := by obtain ⟨ys, T⟩ := h.tab; exact T.blk
theorem FreeH.below (h : FreeH w wz wr lo g v10 v1 v2 sH sL sO nw vL vO) (hb : Below wr.heap.size wr wx) : FreeH w wz wx lo g v10 v1 v2 sH sL sO nw vL vO := by
  obtain ⟨ys, T⟩ := h.tab
  exact ⟨⟨ys, T.below hb⟩, own_below h.left hb (Nat.le_refl _), own_below h.out hb (Nat.le_refl _), h.neLO, h.ne1L, h.ne1O, h.chg.then_below hb, h.old, h.lt2, fun k hk => (hb.block k (Nat.lt_of_lt_of_le (h.lt2 k hk) h.chg.size)).trans (h.keep2 k hk)⟩
theorem FreeH.hold (h : FreeH w wz wr lo g v10 v1 v2 sH sL sO nw vL vO) {v1' : Value} {sH' : List HOp} {ys : List Value} (T : TabR wx lo g v1' v2 sH' nw ys) (hc : Chg (fun k => k = g ∨ v1.ownBlock = some k) wr wx) (hn : v1'.ownBlock = v1.ownBlock ∨ ∃ k, v1'.ownBlock = some k ∧ wr.heap.size ≤ k) : FreeH w wz wx lo g v10 v1' v2 sH' sL sO nw vL vO := by
  have hsz := h.chg.size
  have hl : ∀ k, vL.ownBlock = some k → ¬ (k = g ∨ v1.ownBlock = some k) := fun k hk e => by
    rcases e with rfl | e
    · exact blk_no_row h.blk h.left (by decide) hk
    · exact h.ne1L k e hk
  have ho : ∀ k, vO.ownBlock = some k → ¬ (k = g ∨ v1.ownBlock = some k) := fun k hk e => by
    rcases e with rfl | e
    · exact blk_no_row h.blk h.out (by decide) hk
    · exact h.ne1O k e hk
  refine ⟨⟨ys, T⟩, own_chg h.left hc hl, own_chg h.out hc ho, h.neLO, ne_comm' (ne_grown h.left (ne_comm' h.ne1L) hn), ne_comm' (ne_grown h.out (ne_comm' h.ne1O) hn), h.chg.next hc (fun k hk => ?_), ?_, h.lt2, fun k hk => (hc.block k (Nat.lt_of_lt_of_le (h.lt2 k hk) hsz) (fun e => ?_)).trans (h.keep2 k hk)⟩
  · rcases hk with rfl | e
    · exact .inl (.inl rfl)
    · rcases h.old with e2 | ⟨j, e2, hj⟩
      · exact .inl (.inr (.inl (e2.symm.trans e)))
      · rw [e2] at e; injection e with e; exact .inr (by omega)
  · rcases hn with e | ⟨j, e, hj⟩
    · rcases h.old with e2 | ⟨j, e2, hj⟩
      · exact .inl (e.trans e2)
      · exact .inr ⟨j, e.trans e2, hj⟩
    · exact .inr ⟨j, e, by omega⟩
  · obtain ⟨ys', T'⟩ := h.tab
    rcases e with rfl | e
    · exact blk_no_row h.blk T'.waits (by decide) hk
    · exact T'.ne k e hk
theorem FreeH.outs (h : FreeH w wz wr lo g v10 v1 v2 sH sL sO nw vL vO) {l : HOp} {vO' : Value} (ho : wx.ownsRow w.heap.size 67 3 vO' (sO.length + 1) (cellsH (sO ++ [l]))) (hg : wr.grownBy wx vO.ownBlock) (hn : vO'.ownBlock = vO.ownBlock ∨ vO'.ownBlock = some wr.heap.size) : FreeH w wz wx lo g v10 v1 v2 sH sL (sO ++ [l]) nw vL vO' := by
  obtain ⟨ys, T⟩ := h.tab
  have hn' : vO'.ownBlock = vO.ownBlock ∨ ∃ k, vO'.ownBlock = some k ∧ wr.heap.size ≤ k := hn.imp id fun e => ⟨_, e, Nat.le_refl _⟩
  have hk : ∀ {base : Nat} {e : TypeId} {size n : Nat} {v : Value} {xs : List Value}, wr.ownsRow base e size v n xs → (∀ k, v.ownBlock = some k → vO.ownBlock ≠ some k) → wx.ownsRow base e size v n xs := fun hr hne => hr.kept hg (by
    rename_i v _
    cases hv : v.ownBlock with
    | none => exact .inl rfl
    | some k => exact .inr fun e => hne k hv e.symm)
  have h2O : ∀ k, v2.ownBlock = some k → vO.ownBlock ≠ some k := fun k hk e => by
    have h1 := h.lt2 k hk
    have h3 := (h.out.lt k e).1
    omega
  refine ⟨⟨ys, T.blk.grown hg (fun k hk e => blk_no_row T.blk h.out (by decide) (by rw [e]; exact hk)), hk T.held h.ne1O, hk T.waits h2O, T.ne, T.lo⟩, hk h.left h.neLO, by rw [List.length_append]; exact ho, ne_grown h.left h.neLO hn', h.ne1L, ne_grown T.held h.ne1O hn', h.chg.grown hg (fun k hk => .inr (h.out.lt k hk).1), h.old, h.lt2, fun k hk => (hg.block k (Nat.lt_of_lt_of_le (h.lt2 k hk) h.chg.size) (fun e => h2O k hk e.symm)).trans (h.keep2 k hk)⟩
theorem FreeH.lefts (h : FreeH w wz wr lo g v10 v1 v2 sH sL sO nw vL vO) {l : HOp} {vL' : Value} (ho : wx.ownsRow w.heap.size 67 3 vL' (sL.length + 1) (cellsH (sL ++ [l]))) (hg : wr.grownBy wx vL.ownBlock) (hn : vL'.ownBlock = vL.ownBlock ∨ vL'.ownBlock = some wr.heap.size) : FreeH w wz wx lo g v10 v1 v2 sH (sL ++ [l]) sO nw vL' vO := by
  obtain ⟨ys, T⟩ := h.tab
  have hn' : vL'.ownBlock = vL.ownBlock ∨ ∃ k, vL'.ownBlock = some k ∧ wr.heap.size ≤ k := hn.imp id fun e => ⟨_, e, Nat.le_refl _⟩
  have hk : ∀ {base : Nat} {e : TypeId} {size n : Nat} {v : Value} {xs : List Value}, wr.ownsRow base e size v n xs → (∀ k, v.ownBlock = some k → vL.ownBlock ≠ some k) → wx.ownsRow base e size v n xs := fun hr hne => hr.kept hg (by
    rename_i v _
    cases hv : v.ownBlock with
    | none => exact .inl rfl
    | some k => exact .inr fun e => hne k hv e.symm)
  have h2L : ∀ k, v2.ownBlock = some k → vL.ownBlock ≠ some k := fun k hk e => by
    have h1 := h.lt2 k hk
    have h3 := (h.left.lt k e).1
    omega
  refine ⟨⟨ys, T.blk.grown hg (fun k hk e => blk_no_row T.blk h.left (by decide) (by rw [e]; exact hk)), hk T.held h.ne1L, hk T.waits h2L, T.ne, T.lo⟩, by rw [List.length_append]; exact ho, hk h.out (ne_comm' h.neLO), ne_comm' (ne_grown h.out (ne_comm' h.neLO) hn'), ne_grown T.held h.ne1L hn', h.ne1O, h.chg.grown hg (fun k hk => .inr (h.left.lt k hk).1), h.old, h.lt2, fun k hk => (hg.block k (Nat.lt_of_lt_of_le (h.lt2 k hk) h.chg.size) (fun e => h2L k hk e.symm)).trans (h.keep2 k hk)⟩
end
set_option maxRecDepth 100000 in
set_option maxHeartbeats 1000000 in
theorem deleteFuncC_lock (A : Option Addr) (n cap base : Nat) (h : List HOp) (F : FuncId) (caps : Array Value) (p : HOp → Bool) (w : World) (hown : w.ownsRow base 67 3 (.slice A n cap) n (cellsH h)) (_hbase : base ≤ w.heap.size) (hm : n ≤ 6000000000000)
    (hcall : ∀ (args : Array Value) (w : World), (callFunc F args).run Tryz.prog w = .ok (.enter F args) w)
    (hf : ∀ o ∈ h, ∀ w', Chg (fun k => (Value.slice A n cap).ownBlock = some k) w w' → Calls Tryz.prog F (#[o.val] ++ caps) w' fun e w'' => e = .returned (.bool (p o)) ∧ Below w'.heap.size w' w'') :
    Calls Tryz.prog 57 #[.slice A n cap, .func (.func F) #[] caps] w fun e w' => ∃ m, e = .returned (.slice A m cap) ∧ w'.ownsRow base 67 3 (.slice A m cap) m (cellsH (h.filter fun o => !p o)) ∧ m ≤ n ∧ Chg (fun k => (Value.slice A n cap).ownBlock = some k) w w' := by
  have hl := (rd_own hown).hlen
  have HL := Lib.hid hl
  have C := indexFunc_lock A n cap h F caps p w (rd_own hown) hm hcall (fun o ho w' hw => hf o ho w' (Chg.of_below hw))
  have HF := Lib.hid hf
  rcases idxGo_spec p 0 h with ⟨hno, hi⟩ | ⟨i0, o0, ho0, hp0, hno, hi⟩
  · rw [hi] at C
    have HC := hide C
    have HQ : Hid (h.filter (fun o => !p o) = h) := Lib.hid (List.filter_eq_self.2 fun o ho => by rw [hno o ho]; rfl)
    clear hl hf C hi hno
    go_enter Tryz.func57, Tryz.ntmps57
    go_wp2_with fail
    refine (unhide HC).mono ?_
    rintro e w1 ⟨rfl, hb1⟩
    go_wp2
    go_ret
    exact ⟨n, rfl, by rw [HQ.out]; exact own_below hown hb1 (Nat.le_refl _), Nat.le_refl _, Chg.of_below hb1⟩
  · have hi0 : i0 < n := by rw [← hl]; exact (List.getElem?_eq_some_iff.1 ho0).1
    obtain ⟨g, rfl⟩ : ∃ g, A = some ⟨g, 0, none⟩ := by
      rcases hown.2 with ⟨_, h0⟩ | ⟨g, _, _, hv, _⟩
      · omega
      · injection hv with hA; exact ⟨g, hA⟩
    have hgb : base ≤ g ∧ g < w.heap.size := hown.lt g rfl
    have hncap : n ≤ cap := by
      rcases hown.2 with ⟨_, h0⟩ | ⟨_, _, _, hv, _, _, hnc, _⟩
      · omega
      · injection hv with _ _ hc; omega
    have HI : Hid ((h.take (i0 + 1)).filter (fun o => !p o) = h.take i0) := Lib.hid (by
      rw [List.take_succ_eq_append_getElem (List.getElem?_eq_some_iff.1 ho0).1, List.filter_append, (List.getElem?_eq_some_iff.1 ho0).2]
      rw [List.filter_eq_self.2 fun o ho => by rw [hno o ho]; rfl]
      simp [hp0])
    rw [Int.zero_add] at hi
    rw [hi] at C
    have HC := hide C
    clear hl hf C hi hno ho0 hp0
    have hne : ((i0 : Int) == -1) = false := by rw [beq_eq_false_iff_ne]; omega
    go_enter Tryz.func57, Tryz.ntmps57
    go_wp2_with fail
    refine (unhide HC).mono ?_
    rintro e w1 ⟨rfl, hb1⟩
    go_wp2
    clear hne
    have hown1 := own_below hown hb1 (Nat.le_refl _)
    have hbw1 : Chg (fun k => (Value.slice (some ⟨g, 0, none⟩) n cap).ownBlock = some k) w w1 := Chg.of_below hb1
    clear hb1 hown
    go_loopw [5, 6] (fun s5 s6 wr => ∃ (i j : Nat) (L : List HOp), i < j ∧ j ≤ n ∧ s5 = .int .i64 i ∧ s6 = .int .i64 j ∧ wr.ownsRow base 67 3 (.slice (some ⟨g, 0, none⟩) n cap) n (cellsH L) ∧ Hid (L.length = n ∧ L.take i = (h.take j).filter (fun o => !p o) ∧ L.drop j = h.drop j) ∧ Chg (fun k => (Value.slice (some ⟨g, 0, none⟩) n cap).ownBlock = some k) w wr)
      (fun _ s6 _ => n - (intOf s6).toNat)
    case atStart => exact ⟨i0, i0 + 1, h, by omega, by omega, rfl, by go_num, hown1, ⟨HL.out, HI.out.symm, rfl⟩, hbw1⟩
    case round =>
      obtain ⟨i, j, L, hij, hj, rfl, rfl, hownr, HK, hbw⟩ := hrel
      have hgr : g < wr.heap.size := (hownr.lt g rfl).2
      by_cases hlt : j < n
      · obtain ⟨b, off, o, he, hb, ho, c0, c1, c2⟩ := (rd_own hownr).op (k := j) (by omega)
        cases he
        simp only [Nat.zero_add] at c0 c1 c2
        have HO : Hid (h[j]? = some o ∧ o ∈ h) := by
          have : h[j]? = some o := by
            have h1 := congrArg (fun l => l[0]?) HK.out.2.2
            simpa [ho] using h1.symm
          exact ⟨this, List.mem_of_getElem? this⟩
        clear ho
        have D0 : ∃ v, wr.cell? ⟨g, i * 3, none⟩ = some v := ⟨_, (hownr.cellAt (i * 3) (by omega)).trans (List.getElem?_eq_getElem (by rw [hownr.1]; omega))⟩
        have D1 : ∃ v, wr.cell? ⟨g, i * 3 + 1, none⟩ = some v := ⟨_, (hownr.cellAt (i * 3 + 1) (by omega)).trans (List.getElem?_eq_getElem (by rw [hownr.1]; omega))⟩
        have D2 : ∃ v, wr.cell? ⟨g, i * 3 + 2, none⟩ = some v := ⟨_, (hownr.cellAt (i * 3 + 2) (by omega)).trans (List.getElem?_eq_getElem (by rw [hownr.1]; omega))⟩
        obtain ⟨x0, d0⟩ := D0
        obtain ⟨x1, d1⟩ := D1
        obtain ⟨x2, d2⟩ := D2
        have f0 := hownr.frozenAt (i * 3)
        have f1 := hownr.frozenAt (i * 3 + 1)
        have f2 := hownr.frozenAt (i * 3 + 2)
        cases hP : p o
        · go_wp2_with fail
          refine (HF.out o HO.out.2 _ (hbw.alloc _)).mono ?_
          rintro e w2 ⟨rfl, hb2⟩
          rw [hP]
          obtain ⟨hc2, hf2⟩ := bcell hb2
          have HK2 : Hid ((L.set i o).length = n ∧ (L.set i o).take (i + 1) = (h.take (j + 1)).filter (fun o => !p o) ∧ (L.set i o).drop (j + 1) = h.drop (j + 1)) := by
            refine ⟨by simp [HK.out.1], ?_, ?_⟩
            · rw [List.take_add_one, List.take_add_one, HO.out.1, List.take_set_of_le (Nat.le_refl _), HK.out.2.1, List.getElem?_set_self (by rw [HK.out.1]; omega)]; simp [hP]
            · rw [List.drop_set_of_lt (by omega)]
              have := congrArg (List.drop 1) HK.out.2.2; simpa [List.drop_drop, Nat.add_comm] using this
          have HOW := Lib.hid (own_set3 (own_below (hownr.alloc (.cells #[.int .i64 o.tx, .int .i64 o.what, .int .i64 o.item] 67)) hb2 (Nat.le_refl _)) i o)
          have HBW : Chg (fun k => (Value.slice (some ⟨g, 0, none⟩) n cap).ownBlock = some k) w w2 := (hbw.alloc _).then_below hb2
          go_wp2
          go_roundw
          case rel => exact ⟨i + 1, j + 1, L.set i o, by omega, by omega, by go_num, by go_num, HOW.out, HK2, ((HBW.set (p := ⟨g, i * 3, none⟩) (.inl rfl) _).set (p := ⟨g, i * 3 + 1, none⟩) (.inl rfl) _).set (p := ⟨g, i * 3 + 2, none⟩) (.inl rfl) _⟩
          case measure => simp [intOf]; omega
        · go_wp2_with fail
          refine (HF.out o HO.out.2 _ (hbw.alloc _)).mono ?_
          rintro e w2 ⟨rfl, hb2⟩
          rw [hP]
          have HK2 : Hid (L.length = n ∧ L.take i = (h.take (j + 1)).filter (fun o => !p o) ∧ L.drop (j + 1) = h.drop (j + 1)) := by
            refine ⟨HK.out.1, ?_, ?_⟩
            · rw [List.take_add_one, HO.out.1]; simp [hP, HK.out.2.1]
            · have := congrArg (List.drop 1) HK.out.2.2; simpa [List.drop_drop, Nat.add_comm] using this
          go_wp2
          go_roundw
          case rel => exact ⟨i, j + 1, L, by omega, by omega, rfl, by go_num, own_below (hownr.alloc _) hb2 (Nat.le_refl _), HK2, (hbw.alloc _).then_below hb2⟩
          case measure => simp [intOf]; omega
      · have HK2 : Hid (cellsH (h.filter fun o => !p o) = (cellsH L).take (i * 3)) := by
          have h1 : L.take i = h.filter fun o => !p o := by
            have := HK.out.2.1
            rwa [List.take_of_length_le (l := h) (by rw [HL.out]; omega)] at this
          rw [← h1]
          exact Lib.hid (cellsH_take L i).symm
        
        go_wp2_with ((with_reducible show wpList _ _ _ _ _ _); refine wpList_clear (base := base) rfl (.tmp 38) _ rfl slt_lock hownr (i := i) (by omega) rfl (fun _ => rfl) ?_; intro w3 hown3 hg3)
        go_ret
        exact ⟨i, rfl, by rw [HK2.out]; exact hown3, by omega, hbw.grown hg3 (fun k hk => .inl hk)⟩
/-- What a step leaves of a table: it is as it was, or grew. -/
def Kept (w w' : World) (g : Nat) (v1 v2 v1' v2' : Value) : Prop :=
  Chg (fun k => k = g ∨ v1.ownBlock = some k ∨ v2.ownBlock = some k) w w' ∧ (v1'.ownBlock = v1.ownBlock ∨ ∃ k, v1'.ownBlock = some k ∧ w.heap.size ≤ k) ∧ (v2'.ownBlock = v2.ownBlock ∨ v2'.ownBlock = none ∨ ∃ k, v2'.ownBlock = some k ∧ w.heap.size ≤ k)
theorem Kept.same {w w' : World} {g : Nat} {v1 v2 : Value} (h : Below w.heap.size w w') : Kept w w' g v1 v2 v1 v2 := ⟨Chg.of_below h, .inl rfl, .inl rfl⟩

theorem ask_any (lo g : Nat) (v1 v2 : Value) (H W : List HOp) (l : HOp) (w : World) (T : Tab w lo g v1 v2 H W) (hh : H.length ≤ 1000000) (hw : W.length ≤ 1000000) (hlo : lo ≤ w.heap.size) (hap : H.Pairwise Apart) :
    Calls Tryz.prog 25 #[.pointer (some ⟨g, 0, none⟩), l.val] w fun e w' => ∃ v1' v2', e = .returned (.tuple #[.bool (askF ⟨H, W⟩ l).1, errV (askF ⟨H, W⟩ l).2.1]) ∧ Tab w' lo g v1' v2' (askF ⟨H, W⟩ l).2.2.H (askF ⟨H, W⟩ l).2.2.W ∧ Kept w w' g v1 v2 v1' v2' := by
  cases hR : lrightB l
  · refine (ask_range lo g v1 v2 H W l w T hw hR).mono ?_
    rintro e w' ⟨rfl, hb⟩
    have e1 : askF ⟨H, W⟩ l = (false, 1, ⟨H, W⟩) := by unfold askF; rw [if_pos hR]
    rw [e1]
    exact ⟨v1, v2, rfl, T.below hb, Kept.same hb⟩
  have hany : W.any (ofTx l.tx) = decide (0 ≤ idxGo (fun y => decide (y.tx = l.tx)) 0 W) := (idxGo_any' _ _).symm
  by_cases hC : 0 ≤ idxGo (fun y : HOp => decide (y.tx = l.tx)) 0 W
  · refine (ask_clash lo g v1 v2 H W l w T hw hR hC).mono ?_
    rintro e w' ⟨rfl, hb⟩
    have e1 : askF ⟨H, W⟩ l = (false, 7, ⟨H, W⟩) := by
      unfold askF; rw [if_neg (by rw [hR]; simp), if_pos (by rw [hany]; exact decide_eq_true hC)]
    rw [e1]
    exact ⟨v1, v2, rfl, T.below hb, Kept.same hb⟩
  have hCn : idxGo (fun y : HOp => decide (y.tx = l.tx)) 0 W < 0 := by omega
  have hW : ¬ W.any (ofTx l.tx) = true := by rw [hany]; simp; omega
  by_cases hhas : H.any (fun x => ofP l.tx l.what x && decide (l.item ≤ x.item)) = true
  · obtain ⟨x, hx, hp⟩ := List.any_eq_true.1 hhas
    rw [Bool.and_eq_true] at hp
    rcases idxGo_spec (ofP l.tx l.what) 0 H with ⟨hno, _⟩ | ⟨i, o, ho, hpo, _, hi⟩
    · rw [hno x hx] at hp; exact absurd hp.1 (by simp)
    · have hox : o = x := apart_two hap (List.mem_of_getElem? ho) hx ⟨(ofP_get.1 hpo).1.trans (ofP_get.1 hp.1).1.symm, (ofP_get.1 hpo).2.trans (ofP_get.1 hp.1).2.symm⟩
      have hil := (List.getElem?_eq_some_iff.1 ho).1
      refine (ask_has lo g v1 v2 H W l w T hh hw hR hCn i hil (by rw [hi]; omega) (fun o' ho' => by rw [ho] at ho'; cases ho'; rw [hox]; exact of_decide_eq_true hp.2)).mono ?_
      rintro e w' ⟨rfl, hb⟩
      have e1 : askF ⟨H, W⟩ l = (true, 0, ⟨H, W⟩) := by unfold askF; rw [if_neg (by rw [hR]; simp), if_neg hW, if_pos hhas]
      rw [e1]
      exact ⟨v1, v2, rfl, T.below hb, Kept.same hb⟩
  have hnot : ∀ (i : Nat) o, idxGo (ofP l.tx l.what) 0 H = i → H[i]? = some o → o.item < l.item := fun i o hi ho => by
    rcases idxGo_spec (ofP l.tx l.what) 0 H with ⟨_, hn⟩ | ⟨j, o', ho', hpo, _, hj⟩
    · omega
    · obtain rfl : i = j := by omega
      rw [ho] at ho'
      cases ho'
      rcases Int.lt_or_le o.item l.item with h | h
      · exact h
      · exact absurd (List.any_eq_true.2 ⟨o, List.mem_of_getElem? ho, by rw [hpo, decide_eq_true h]; rfl⟩) hhas
  cases hF1 : freeB H l
  · refine (ask_wait1 lo g v1 v2 H W l w T hh hw hR hCn hlo hnot hF1).mono ?_
    rintro e w' ⟨v2', rfl, hT, hc, hn⟩
    have e1 : askF ⟨H, W⟩ l = (false, 0, ⟨H, W ++ [l]⟩) := by unfold askF; rw [if_neg (by rw [hR]; simp), if_neg hW, if_neg hhas, if_neg (by rw [hF1]; simp)]
    rw [e1]
    exact ⟨v1, v2', rfl, hT, hc.mono (fun k hk => .inl (hk.imp id .inr)), .inl rfl, hn.imp id .inr⟩
  cases hF2 : freeB W l
  · refine (ask_wait2 lo g v1 v2 H W l w T hh hw hR hCn hlo hnot hF1 hF2).mono ?_
    rintro e w' ⟨v2', rfl, hT, hc, hn⟩
    have e1 : askF ⟨H, W⟩ l = (false, 0, ⟨H, W ++ [l]⟩) := by unfold askF; rw [if_neg (by rw [hR]; simp), if_neg hW, if_neg hhas, if_neg (by rw [hF1, hF2]; simp)]
    rw [e1]
    exact ⟨v1, v2', rfl, hT, hc.mono (fun k hk => .inl (hk.imp id .inr)), .inl rfl, hn.imp id .inr⟩
  · refine (ask_hold lo g v1 v2 H W l w T hh hw hR hCn hlo hnot hF1 hF2).mono ?_
    rintro e w' ⟨v1', rfl, hT, hc, hn⟩
    have e1 : askF ⟨H, W⟩ l = (true, 0, ⟨holdL H l, W⟩) := by unfold askF; rw [if_neg (by rw [hR]; simp), if_neg hW, if_neg hhas, if_pos (by rw [hF1, hF2]; rfl)]
    rw [e1]
    exact ⟨v1', v2, rfl, hT, hc.mono (fun k hk => .inl (hk.imp id .inl)), hn, .inl rfl⟩
end Go.Proofs.YtbccnafdfeempaaGreatDoor
