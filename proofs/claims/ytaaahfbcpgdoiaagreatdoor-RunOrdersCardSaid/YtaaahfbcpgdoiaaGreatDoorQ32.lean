
/-
  CONTRACTS of slices.Index over ops, faces.recoverable.
  PLAIN: the tests of the four faces (cautT, strictT, rigT, facesF).
  CONTRACT of faces.Of.
-/
import Derived.Test.YtaaahfbcpgdoiaaGreatDoorQ18
import Derived.Test.YtaaahfbcpgdoiaaGreatDoorQ7
import Derived.Deep.DeepCutAuto

namespace Go.Proofs.YtaaahfbcpgdoiaaGreatDoor
open Go.RowKit

set_option maxHeartbeats 1000000 in
theorem index_op (A : Option Addr) (n cap : Nat) (h : List HOp) (v : HOp) (w : World) (hr : Rd w w.heap.size 3 A n (cellsH h)) (hm : n ≤ 6000000000000) :
    Calls Tryz.prog 148 #[.slice A n cap, v.val] w fun e w' => e = .returned (.int .i64 (idxGo (fun o => decide (o = v)) 0 h)) ∧ Below w.heap.size w w' := by
  have HL := Lib.hid hr.hlen
  obtain ⟨v1, v2, v3⟩ := v
  generalize hF : idxGo (fun o => decide (o = HOp.mk v1 v2 v3)) 0 h = F
  have HF0 := Lib.hid hF
  clear hF
  unfold HOp.val
  go_enter Tryz.func148, Tryz.ntmps148
  go_wp2
  go_loopw [8] (fun i wr => ∃ k : Nat, k ≤ n ∧ i = .int .i64 k ∧ Hid (F = idxGo (fun o => decide (o = HOp.mk v1 v2 v3)) k (h.drop k)) ∧ Blk wr w.heap.size 91 [.int .i64 v1, .int .i64 v2, .int .i64 v3] ∧ Below w.heap.size w wr) (fun i _ => n - (intOf i).toNat)
  case atStart => exact ⟨0, Nat.zero_le _, rfl, Lib.hid HF0.out.symm, Blk.new w _ _, (Below.refl _ _).alloc (Nat.le_refl _) _⟩
  case round =>
    obtain ⟨k, hk, rfl, HE, hB, hbw⟩ := hrel
    have b0 := hB.cellS (i := 0) (v := .int .i64 v1) rfl
    have b1 := hB.cellS (i := 1) (v := .int .i64 v2) rfl
    have b2 := hB.cellS (i := 2) (v := .int .i64 v3) rfl
    by_cases hlt : k < n
    · obtain ⟨b, off, o, he, hb, ho, c0, c1, c2⟩ := (hr.below hbw).op (k := k) (by omega)
      cases he
      have HO := Lib.hid (drop_at ho)
      clear ho
      obtain ⟨y1, y2, y3⟩ := o
      simp only at c0 c1 c2
      by_cases hxy : HOp.mk y1 y2 y3 = HOp.mk v1 v2 v3
      · have HE2 : Hid (F = k) := Lib.hid (by rw [HE.out, HO.out]; simp [idxGo, hxy])
        cases hxy
        go_wp2
        go_quiet (fail)
        go_wp2
        go_ret
        exact ⟨ret_int HE2.out.symm, below_drewN hbw _⟩
      · have HE2 : Hid (F = idxGo (fun o => decide (o = HOp.mk v1 v2 v3)) (k + 1 : Nat) (h.drop (k + 1))) := Lib.hid (by rw [HE.out, HO.out]; simp [idxGo, hxy])
        have hxy2 : ¬ (v1 = y1 ∧ v2 = y2 ∧ v3 = y3) := fun h => hxy (by rw [h.1, h.2.1, h.2.2])
        clear hxy
        by_cases g1 : v1 = y1 <;> by_cases g2 : v2 = y2 <;> by_cases g3 : v3 = y3
        · exact absurd ⟨g1, g2, g3⟩ hxy2
        all_goals
          try subst g1
          try subst g2
          try subst g3
          clear hxy2
          go_wp2
          go_quiet (fail)
          go_wp2
          go_roundw
          case rel => exact ⟨k + 1, by omega, by go_num, HE2, hB, below_drewN hbw _⟩
          case measure => simp [intOf]; omega
    · have HE2 : Hid (F = -1) := Lib.hid (by rw [HE.out, drop_end (by rw [HL.out]; omega)]; rfl)
      go_wp2
      go_ret
      exact ⟨ret_int HE2.out.symm, hbw⟩

/-! ### Scans. -/
def scanB (p : List HOp → HOp → Bool) (pre : List HOp) : List HOp → Bool
  | [] => true
  | o :: t => p pre o && scanB p (pre ++ [o]) t
theorem scanB_append (p : List HOp → HOp → Bool) (pre a b : List HOp) : scanB p pre (a ++ b) = (scanB p pre a && scanB p (pre ++ a) b) := by
  induction a generalizing pre with
  | nil => simp [scanB]
  | cons o t ih => simp [scanB, ih, Bool.and_assoc]
theorem scanB_snoc (p : List HOp → HOp → Bool) (a : List HOp) (o : HOp) : scanB p [] (a ++ [o]) = (scanB p [] a && p a o) := by simp [scanB_append, scanB]
theorem take_snocF {α : Type} {h : List α} {k : Nat} {o : α} (ho : h[k]? = some o) : h.take (k + 1) = h.take k ++ [o] := by rw [List.take_add_one, ho]; rfl

def recT (h : List HOp) (pre : List HOp) (o : HOp) : Bool :=
  !(decide (o.what = 1)) || decide (fromB pre o = 0) || decide (fromB pre o = o.tx) ||
    !(decide (0 ≤ idxGo (fun x => decide (x = HOp.mk o.tx 3 0)) 0 h) && (decide (idxGo (fun x => decide (x = HOp.mk (fromB pre o) 3 0)) 0 h < 0) || decide (idxGo (fun x => decide (x = HOp.mk o.tx 3 0)) 0 h < idxGo (fun x => decide (x = HOp.mk (fromB pre o) 3 0)) 0 h)))
def recF (h : List HOp) : Bool := scanB (recT h) [] h

set_option maxRecDepth 100000 in
set_option maxHeartbeats 2000000 in
theorem recoverable_any (A : Option Addr) (n cap : Nat) (h : List HOp) (w : World) (hr : Rd w w.heap.size 3 A n (cellsH h)) (hm : n ≤ 1000000) (hcap : n ≤ cap) (ht : ∀ o ∈ h, 1 ≤ o.tx ∧ o.tx ≤ 6) :
    Calls Tryz.prog 104 #[.slice A n cap] w fun e w' => e = .returned (.bool (recF h)) ∧ Below w.heap.size w w' := by
  have HL := Lib.hid hr.hlen
  have HT := Lib.hid ht
  clear ht
  go_enter Tryz.func104, Tryz.ntmps104
  go_wp2
  go_loopw [10] (fun i wr => ∃ k : Nat, k ≤ n ∧ i = .int .i64 k ∧ Hid (recF h = scanB (recT h) (h.take k) (h.drop k)) ∧ Below w.heap.size w wr) (fun i _ => n - (intOf i).toNat)
  case atStart => exact ⟨0, Nat.zero_le _, rfl, rfl, Below.refl _ _⟩
  case round =>
    obtain ⟨k, hk, rfl, HE, hbw⟩ := hrel
    by_cases hlt : k < n
    · obtain ⟨b, off, o, he, hb, ho, c0, c1, c2⟩ := (hr.below hbw).op (k := k) (by omega)
      cases he
      have HO := Lib.hid (drop_at ho)
      have HS := Lib.hid (take_snocF ho)
      have C1 := hide (fun w1 (hb : Below w.heap.size w w1) => from_any (some ⟨b, off, none⟩) n cap h k o w1 ((hr.below hb).more hb.size) hm hcap ho HT.out)
      have C2 := hide (fun w1 v (hb : Below w.heap.size w w1) => index_op (some ⟨b, off, none⟩) n cap h v w1 ((hr.below hb).more hb.size) (by omega))
      clear ho
      have HN : recT h (h.take k) o = true → Hid (recF h = scanB (recT h) (h.take (k + 1)) (h.drop (k + 1))) := fun hx => Lib.hid (by rw [HE.out, HO.out, HS.out]; simp [scanB, hx])
      have HX : recT h (h.take k) o = false → Hid (recF h = false) := fun hx => Lib.hid (by rw [HE.out, HO.out]; simp [scanB, hx])
      obtain ⟨tx, what, item⟩ := o
      simp only at c0 c1 c2
      by_cases h1 : what = 1
      · subst h1
        have hT : recT h (h.take k) ⟨tx, 1, item⟩ = (decide (fromB (h.take k) ⟨tx, 1, item⟩ = 0) || decide (fromB (h.take k) ⟨tx, 1, item⟩ = tx) ||
          !(decide (0 ≤ idxGo (fun x => decide (x = HOp.mk tx 3 0)) 0 h) && (decide (idxGo (fun x => decide (x = HOp.mk (fromB (h.take k) ⟨tx, 1, item⟩) 3 0)) 0 h < 0) || decide (idxGo (fun x => decide (x = HOp.mk tx 3 0)) 0 h < idxGo (fun x => decide (x = HOp.mk (fromB (h.take k) ⟨tx, 1, item⟩) 3 0)) 0 h)))) := by simp [recT]
        rw [hT] at HN HX
        clear hT
        generalize fromB (h.take k) ⟨tx, 1, item⟩ = xv at *
        generalize hi1 : idxGo (fun x => decide (x = HOp.mk tx 3 0)) 0 h = i1 at *
        generalize hi2 : idxGo (fun x => decide (x = HOp.mk xv 3 0)) 0 h = i2 at *
        have HI1 := Lib.hid hi1
        have HI2 := Lib.hid hi2
        clear hi1 hi2
        have hbA := (hbw.alloc hbw.size (.cells #[.int .i64 tx, .int .i64 1, .int .i64 item] 91))
        have HA := hide hbA
        clear hbA
        go_wp2_with fail
        refine (unhide C1 _ (unhide HA)).mono ?_
        rintro e w1 ⟨rfl, hb1⟩
        have hbw1 := (unhide HA).trans (hb1.mono (unhide HA).size)
        have hz1 := hb1.size
        simp at hz1
        have d0 := (hb1.cell (p := ⟨wr.heap.size, 0, none⟩) (by simp)).trans (by simp [World.cell?_alloc_new] : _ = some (.int .i64 tx))
        clear HA hb1
        by_cases g1 : xv = 0
        · subst g1
          have HF := HN (by simp)
          clear HN HX
          go_wp2
          go_roundw
          case rel => exact ⟨k + 1, by omega, by go_num, HF, hbw1⟩
          case measure => simp [intOf]; omega
        have g1' : (xv == 0) = false := by simpa using g1
        by_cases g2 : xv = tx
        · subst g2
          have HF := HN (by simp)
          clear HN HX
          go_wp2
          go_roundw
          case rel => exact ⟨k + 1, by omega, by go_num, HF, hbw1⟩
          case measure => simp [intOf]; omega
        have g2' : (xv == tx) = false := by simpa using g2
        go_wp2_with fail
        refine Calls.mono (unhide C2 _ ⟨tx, 3, 0⟩ hbw1) ?_
        rintro e w2 ⟨rfl, hb2⟩
        have hbw2 := hbw1.trans (hb2.mono hbw1.size)
        rw [HI1.out]
        go_wp2_with fail
        refine Calls.mono (unhide C2 _ ⟨xv, 3, 0⟩ hbw2) ?_
        rintro e w3 ⟨rfl, hb3⟩
        have hbw3 := hbw2.trans (hb3.mono hbw2.size)
        rw [HI2.out]
        clear hb2 hb3 d0
        by_cases g3 : 0 ≤ i1
        · by_cases g4 : i2 < 0
          · have HF := HX (by simp [g1, g2, g3, g4])
            clear HN HX
            go_wp2
            go_ret
            exact ⟨ret_bool HF.out.symm, hbw3⟩
          · by_cases g5 : i1 < i2
            · have HF := HX (by simp [g1, g2, g3, g5])
              clear HN HX
              go_wp2
              go_ret
              exact ⟨ret_bool HF.out.symm, hbw3⟩
            · have HF := HN (by simp [g4, g5])
              clear HN HX
              go_wp2
              go_roundw
              case rel => exact ⟨k + 1, by omega, by go_num, HF, hbw3⟩
              case measure => simp [intOf]; omega
        · have HF := HN (by simp [g3])
          clear HN HX
          go_wp2
          go_roundw
          case rel => exact ⟨k + 1, by omega, by go_num, HF, hbw3⟩
          case measure => simp [intOf]; omega
      · have HF := HN (by simp [recT, h1])
        clear HN HX
        have h1' : (what != 1) = true := by simpa using h1
        go_wp2
        go_roundw
        case rel => exact ⟨k + 1, by omega, by go_num, HF, hbw.alloc hbw.size _⟩
        case measure => simp [intOf]; omega
    · have HF : Hid (recF h = true) := Lib.hid (by rw [HE.out, drop_end (by rw [HL.out]; omega)]; rfl)
      go_wp2
      go_ret
      exact ⟨ret_bool HF.out.symm, hbw⟩
end Go.Proofs.YtaaahfbcpgdoiaaGreatDoor


namespace Go.Proofs.YtaaahfbcpgdoiaaGreatDoor
open Go.RowKit

def cautT (pre : List HOp) (o : HOp) : Bool := endsB o || !(decide (o.what = 1)) || decide (fromB pre o = 0) || decide (fromB pre o = o.tx) || decide ((endedF pre).getD (fromB pre o).toNat 0 = 3)
def strictT (pre : List HOp) (o : HOp) : Bool := endsB o || !openB pre o 2
def rigT (pre : List HOp) (o : HOp) : Bool := endsB o || !(decide (o.what = 2) && openB pre o 1)
structure FacesV where
  recov : Bool
  caut : Bool
  strict : Bool
  rig : Bool
  deriving DecidableEq
def FacesV.val (f : FacesV) : Value := .agg #[.bool f.recov, .bool f.caut, .bool f.strict, .bool f.rig]
def facesF (h : List HOp) : FacesV := ⟨recF h, scanB cautT [] h, scanB strictT [] h, scanB rigT [] h && scanB strictT [] h⟩

theorem fromB_range {pre : List HOp} {x : HOp} (ht : ∀ o ∈ pre, 1 ≤ o.tx ∧ o.tx ≤ 6) : fromB pre x = 0 ∨ (1 ≤ fromB pre x ∧ fromB pre x ≤ 6) := by
  unfold fromB
  split
  · rename_i o h
    have := List.mem_of_find?_eq_some h
    exact .inr (ht o (by simpa using this))
  · exact .inl rfl
end Go.Proofs.YtaaahfbcpgdoiaaGreatDoor


namespace Go.Proofs.YtaaahfbcpgdoiaaGreatDoor
open Go.RowKit

theorem idx7_1 (x0 x1 x2 x3 x4 x5 x6 : Int) (w : World) : (Instr.index 197 (.agg #[.int .i64 x0, .int .i64 x1, .int .i64 x2, .int .i64 x3, .int .i64 x4, .int .i64 x5, .int .i64 x6]) (.int .i64 1)).run Tryz.prog w = .ok (.int .i64 x1) w := by kernel_rfl
theorem idx7_2 (x0 x1 x2 x3 x4 x5 x6 : Int) (w : World) : (Instr.index 197 (.agg #[.int .i64 x0, .int .i64 x1, .int .i64 x2, .int .i64 x3, .int .i64 x4, .int .i64 x5, .int .i64 x6]) (.int .i64 2)).run Tryz.prog w = .ok (.int .i64 x2) w := by kernel_rfl
theorem idx7_3 (x0 x1 x2 x3 x4 x5 x6 : Int) (w : World) : (Instr.index 197 (.agg #[.int .i64 x0, .int .i64 x1, .int .i64 x2, .int .i64 x3, .int .i64 x4, .int .i64 x5, .int .i64 x6]) (.int .i64 3)).run Tryz.prog w = .ok (.int .i64 x3) w := by kernel_rfl
theorem idx7_4 (x0 x1 x2 x3 x4 x5 x6 : Int) (w : World) : (Instr.index 197 (.agg #[.int .i64 x0, .int .i64 x1, .int .i64 x2, .int .i64 x3, .int .i64 x4, .int .i64 x5, .int .i64 x6]) (.int .i64 4)).run Tryz.prog w = .ok (.int .i64 x4) w := by kernel_rfl
theorem idx7_5 (x0 x1 x2 x3 x4 x5 x6 : Int) (w : World) : (Instr.index 197 (.agg #[.int .i64 x0, .int .i64 x1, .int .i64 x2, .int .i64 x3, .int .i64 x4, .int .i64 x5, .int .i64 x6]) (.int .i64 5)).run Tryz.prog w = .ok (.int .i64 x5) w := by kernel_rfl
theorem idx7_6 (x0 x1 x2 x3 x4 x5 x6 : Int) (w : World) : (Instr.index 197 (.agg #[.int .i64 x0, .int .i64 x1, .int .i64 x2, .int .i64 x3, .int .i64 x4, .int .i64 x5, .int .i64 x6]) (.int .i64 6)).run Tryz.prog w = .ok (.int .i64 x6) w := by kernel_rfl
theorem idx7 (l : List Int) (hl : l.length = 7) (x : Int) (h1 : 1 ≤ x) (h2 : x ≤ 6) (w : World) : (Instr.index 197 (arr7 l) (.int .i64 x)).run Tryz.prog w = .ok (.int .i64 (l.getD x.toNat 0)) w := by
  obtain ⟨x0, x1, x2, x3, x4, x5, x6, rfl⟩ := list7 hl
  have : x = 1 ∨ x = 2 ∨ x = 3 ∨ x = 4 ∨ x = 5 ∨ x = 6 := by omega
  rcases this with rfl | rfl | rfl | rfl | rfl | rfl
  · exact idx7_1 x0 x1 x2 x3 x4 x5 x6 w
  · exact idx7_2 x0 x1 x2 x3 x4 x5 x6 w
  · exact idx7_3 x0 x1 x2 x3 x4 x5 x6 w
  · exact idx7_4 x0 x1 x2 x3 x4 x5 x6 w
  · exact idx7_5 x0 x1 x2 x3 x4 x5 x6 w
  · exact idx7_6 x0 x1 x2 x3 x4 x5 x6 w

theorem fcells {w : World} {g : Nat} {t : TypeId} {a b c d : Bool} (h : Blk w g t [.bool a, .bool b, .bool c, .bool d]) :
    w.cell? ⟨g, 0, none⟩ = some (.bool a) ∧ w.cell? ⟨g, 1, none⟩ = some (.bool b) ∧ w.cell? ⟨g, 2, none⟩ = some (.bool c) ∧ w.cell? ⟨g, 3, none⟩ = some (.bool d) ∧
    w.frozen? ⟨g, 0, none⟩ = false ∧ w.frozen? ⟨g, 1, none⟩ = false ∧ w.frozen? ⟨g, 2, none⟩ = false ∧ w.frozen? ⟨g, 3, none⟩ = false :=
  ⟨h.cellS rfl, h.cellS rfl, h.cellS rfl, h.cellS rfl, h.frozen _, h.frozen _, h.frozen _, h.frozen _⟩
theorem ocells {w : World} {g : Nat} {t : TypeId} {a b c : Int} (h : Blk w g t [.int .i64 a, .int .i64 b, .int .i64 c]) :
    w.cell? ⟨g, 0, none⟩ = some (.int .i64 a) ∧ w.cell? ⟨g, 1, none⟩ = some (.int .i64 b) ∧ w.cell? ⟨g, 2, none⟩ = some (.int .i64 c) := ⟨h.cellS rfl, h.cellS rfl, h.cellS rfl⟩

/-- What the round carries: the faces' block g, the result's block z, the op's block ob. -/
structure FSt (w wx : World) (g z ob : Nat) (R c s r : Bool) (tx what item : Int) : Prop where
  fb : Blk wx g 107 [.bool R, .bool c, .bool s, .bool r]
  zb : Blk wx z 107 [.bool false, .bool false, .bool false, .bool false]
  ob : Blk wx ob 91 [.int .i64 tx, .int .i64 what, .int .i64 item]
  bel : Below w.heap.size w wx
theorem FSt.below {w wx wy : World} {g z ob : Nat} {R c s r : Bool} {tx what item : Int} (H : FSt w wx g z ob R c s r tx what item) (hb : Below wx.heap.size wx wy) : FSt w wy g z ob R c s r tx what item :=
  ⟨H.fb.below hb H.fb.lt, H.zb.below hb H.zb.lt, H.ob.below hb H.ob.lt, H.bel.trans (hb.mono H.bel.size)⟩
theorem FSt.put1 {w wx : World} {g z ob : Nat} {R c s r : Bool} {tx what item : Int} (H : FSt w wx g z ob R c s r tx what item) (hz : z < g) (ho : g < ob) (hg : w.heap.size ≤ g) (v : Bool) : FSt w (wx.setCell ⟨g, 1, none⟩ (.bool v)) g z ob R v s r tx what item :=
  ⟨H.fb.put 1 _, H.zb.far (p := ⟨g, 1, none⟩) (Nat.ne_of_lt hz) _, H.ob.far (p := ⟨g, 1, none⟩) (Nat.ne_of_gt ho) _, H.bel.setCell (p := ⟨g, 1, none⟩) hg _⟩
theorem FSt.put2 {w wx : World} {g z ob : Nat} {R c s r : Bool} {tx what item : Int} (H : FSt w wx g z ob R c s r tx what item) (hz : z < g) (ho : g < ob) (hg : w.heap.size ≤ g) (v : Bool) : FSt w (wx.setCell ⟨g, 2, none⟩ (.bool v)) g z ob R c v r tx what item :=
  ⟨H.fb.put 2 _, H.zb.far (p := ⟨g, 2, none⟩) (Nat.ne_of_lt hz) _, H.ob.far (p := ⟨g, 2, none⟩) (Nat.ne_of_gt ho) _, H.bel.setCell (p := ⟨g, 2, none⟩) hg _⟩
theorem FSt.put3 {w wx : World} {g z ob : Nat} {R c s r : Bool} {tx what item : Int} (H : FSt w wx g z ob R c s r tx what item) (hz : z < g) (ho : g < ob) (hg : w.heap.size ≤ g) (v : Bool) : FSt w (wx.setCell ⟨g, 3, none⟩ (.bool v)) g z ob R c s v tx what item :=
  ⟨H.fb.put 3 _, H.zb.far (p := ⟨g, 3, none⟩) (Nat.ne_of_lt hz) _, H.ob.far (p := ⟨g, 3, none⟩) (Nat.ne_of_gt ho) _, H.bel.setCell (p := ⟨g, 3, none⟩) hg _⟩

set_option maxRecDepth 100000 in
set_option maxHeartbeats 8000000 in
theorem facesOf_ok (A : Option Addr) (n cap : Nat) (h : List HOp) (w : World) (hr : Rd w w.heap.size 3 A n (cellsH h)) (hcap : n ≤ cap) (hok : okH h) :
    Calls Tryz.prog 56 #[.slice A n cap] w fun e w' => e = .returned (.tuple #[(facesF h).val, .nilIface]) ∧ Below w.heap.size w w' := by
  have hm : n ≤ 40 := by rw [← hr.hlen]; exact okH_len hok
  have HL := Lib.hid hr.hlen
  have HT := Lib.hid (okH_tx hok)
  have HO := Lib.hid (okH_right hok)
  have HR := hide (fun w1 (hb : Below w.heap.size w w1) => by
    have := right_h A n cap h w1 ((hr.below hb).more hb.size) (by omega)
    rw [show (checkF h).2 = 0 from hok, errV_zero] at this
    exact this)
  have C0 := hide (fun w1 (hb : Below w.heap.size w w1) => recoverable_any A n cap h w1 ((hr.below hb).more hb.size) (by omega) hcap HT.out)
  have C1 := hide (fun w1 k o (ho : h[k]? = some o) (hb : Below w.heap.size w w1) => from_any A n cap h k o w1 ((hr.below hb).more hb.size) (by omega) hcap ho HT.out)
  have C2 := hide (fun w1 k (hk : k ≤ n) (hb : Below w.heap.size w w1) => ended_any A n cap h k w1 ((hr.below hb).more hb.size) (by omega) hcap hk HT.out)
  have C3 := hide (fun w1 k o what (ho : h[k]? = some o) (hb : Below w.heap.size w w1) => open_any A n cap h k o what w1 ((hr.below hb).more hb.size) (by omega) hcap ho HT.out)
  clear hok
  have HRF : Hid (facesF h = ⟨recF h, scanB cautT [] h, scanB strictT [] h, scanB rigT [] h && scanB strictT [] h⟩) := Lib.hid rfl
  generalize recF h = R at *
  go_enter Tryz.func56, Tryz.ntmps56
  have hb0 : Below w.heap.size w (w.alloc (.cells #[.bool false, .bool false, .bool false, .bool false] 107)) := (Below.refl _ _).alloc (Nat.le_refl _) _
  have HB0 := hide hb0
  clear hb0
  go_wp2_with fail
  refine (unhide HR _ (unhide HB0)).mono ?_
  rintro e w0 ⟨rfl, hb00⟩
  have hZ0 := (Blk.new w 107 [.bool false, .bool false, .bool false, .bool false]).below hb00 (by simp)
  have hbw0 := (unhide HB0).trans (hb00.mono (unhide HB0).size)
  have hsz0 := hb00.size
  simp at hsz0
  clear hb00 HB0
  go_wp2_with fail
  refine (unhide C0 _ hbw0).mono ?_
  rintro e w1 ⟨rfl, hb1⟩
  have hZ1 := hZ0.below hb1 hZ0.lt
  have hbw1 := hbw0.trans (hb1.mono hbw0.size)
  have hsz1 := hb1.size
  clear hb1 hZ0 hbw0 C0 HR
  have hzg : w.heap.size < w1.heap.size := by omega
  go_wp2_with fail
  go_loopw [20] (fun i wr => ∃ (k : Nat) (c s r : Bool), k ≤ n ∧ i = .int .i64 k ∧ Hid (scanB cautT [] (h.take k) = c ∧ scanB strictT [] (h.take k) = s ∧ scanB rigT [] (h.take k) = r) ∧
      Blk wr w1.heap.size 107 [.bool R, .bool c, .bool s, .bool r] ∧ Blk wr w.heap.size 107 [.bool false, .bool false, .bool false, .bool false] ∧ Below w.heap.size w wr) (fun i _ => n - (intOf i).toNat)
  case atStart => exact ⟨0, true, true, true, Nat.zero_le _, rfl, ⟨rfl, rfl, rfl⟩, Blk.new w1 107 [.bool R, .bool true, .bool true, .bool true], hZ1.alloc _, hbw1.alloc hbw1.size _⟩
  case round =>
    obtain ⟨k, c, s, r, hk, rfl, HC, hF, hZ, hbw⟩ := hrel
    have hFlt := hF.lt
    by_cases hlt : k < n
    · obtain ⟨b, off, o, he, hb, ho, c0, c1, c2⟩ := (hr.below hbw).op (k := k) (by omega)
      cases he
      have HS := Lib.hid (take_snocF ho)
      have HK := Lib.hid ho
      have HRo := HO.out o (List.mem_of_getElem? ho)
      have HP : Hid (∀ x ∈ h.take k, 1 ≤ x.tx ∧ x.tx ≤ 6) := Lib.hid (fun x hx => HT.out x (List.mem_of_mem_take hx))
      clear ho
      have hFS := fun (w2 : World) (hb2 : Below (wr.alloc (.cells #[.int .i64 o.tx, .int .i64 o.what, .int .i64 o.item] 91)).heap.size (wr.alloc (.cells #[.int .i64 o.tx, .int .i64 o.what, .int .i64 o.item] 91)) w2) =>
        FSt.below (w := w) ⟨hF.alloc _, hZ.alloc _, Blk.new wr 91 [.int .i64 o.tx, .int .i64 o.what, .int .i64 o.item], hbw.alloc hbw.size _⟩ hb2
      obtain ⟨tx, what, item⟩ := o
      simp only at c0 c1 c2 hFS
      cases hE : endsB ⟨tx, what, item⟩
      · have hwh : what = 1 ∨ what = 2 := by
          have h1 := rightB_get HRo
          simp only [endsB, decide_eq_false_iff_not] at hE
          simp only at h1
          omega
        go_upto_if 29 with ((go_at_call 62; refine (ends_any ⟨tx, what, item⟩ _).mono ?_; rintro e w2 ⟨rfl, hb2⟩; rw [hE]; have H2 := hFS w2 hb2; have hOlt := (hFS w2 hb2).ob.lt; obtain ⟨oc0, oc1, oc2⟩ := ocells (hFS w2 hb2).ob))
        go_cut [8] (fun s8 wx => ∃ c', Hid (scanB cautT [] (h.take (k + 1)) = c') ∧ FSt w wx w1.heap.size w.heap.size wr.heap.size R c' s r tx what item)
        case first =>
          have hgo : w1.heap.size < wr.heap.size := hFlt
          rcases hwh with rfl | rfl
          · go_wp2_with fail
            refine (unhide C1 _ k ⟨tx, 1, item⟩ HK.out H2.bel).mono ?_
            rintro e w3 ⟨rfl, hb3⟩
            have H3 := H2.below hb3
            have hO3 := H3.ob.lt
            have hxr := fromB_range (x := ⟨tx, 1, item⟩) HP.out
            generalize hx : fromB (h.take k) ⟨tx, 1, item⟩ = xv at *
            have HX := Lib.hid hx
            obtain ⟨y0, y1, y2, y3, z0, z1, z2, z3⟩ := fcells H3.fb
            obtain ⟨oc0, oc1, oc2⟩ := ocells H3.ob
            clear hx hb3
            cases c
            · have HV : Hid (scanB cautT [] (h.take (k + 1)) = false) := Lib.hid (by rw [HS.out, scanB_snoc, HC.out.1, cautT, hE, HX.out]; rfl)
              go_wp2
              go_meet
              case rel => exact ⟨_, HV, H3.put1 hzg hgo (Nat.le_of_lt hzg) _⟩
            by_cases g1 : xv = 0
            · subst g1
              have HV : Hid (scanB cautT [] (h.take (k + 1)) = true) := Lib.hid (by rw [HS.out, scanB_snoc, HC.out.1, cautT, hE, HX.out]; simp)
              go_wp2
              go_meet
              case rel => exact ⟨_, HV, H3.put1 hzg hgo (Nat.le_of_lt hzg) _⟩
            have g1' : (xv == 0) = false := by simpa using g1
            by_cases g2 : xv = tx
            · subst g2
              have HV : Hid (scanB cautT [] (h.take (k + 1)) = true) := Lib.hid (by rw [HS.out, scanB_snoc, HC.out.1, cautT, hE, HX.out]; simp)
              go_wp2
              go_meet
              case rel => exact ⟨_, HV, H3.put1 hzg hgo (Nat.le_of_lt hzg) _⟩
            have g2' : (xv == tx) = false := by simpa using g2
            have hidx := idx7 (endedF (h.take k)) (endedF_length _) xv (by omega) (by omega)
            generalize hev : (endedF (h.take k)).getD xv.toNat 0 = ev at hidx
            have HEV := Lib.hid hev
            clear hev
            go_wp2_with fail
            refine (unhide C2 _ k hk H3.bel).mono ?_
            rintro e w4 ⟨rfl, hb4⟩
            have H4 := H3.below hb4
            clear H3 y0 y1 y2 y3 z0 z1 z2 z3 oc0 oc1 oc2 hb4
            obtain ⟨y0, y1, y2, y3, z0, z1, z2, z3⟩ := fcells H4.fb
            obtain ⟨oc0, oc1, oc2⟩ := ocells H4.ob
            generalize arr7 (endedF (h.take k)) = av at *
            have HV : Hid (scanB cautT [] (h.take (k + 1)) = (ev == 3)) := Lib.hid (by rw [HS.out, scanB_snoc, HC.out.1, cautT, hE, HX.out, HEV.out, Bool.eq_iff_iff]; simp [g1, g2])
            go_wp2
            go_meet
            case rel => exact ⟨_, HV, H4.put1 hzg hgo (Nat.le_of_lt hzg) _⟩
          · have HV : Hid (scanB cautT [] (h.take (k + 1)) = c) := Lib.hid (by rw [HS.out, scanB_snoc, HC.out.1, cautT, hE]; simp)
            go_wp2
            go_meet
            case rel => exact ⟨_, HV, H2⟩
        case rest =>
          obtain ⟨c', HC', H3⟩ := hcut
          have hO3 := H3.ob.lt
          have hgo : w1.heap.size < wr.heap.size := hFlt
          obtain ⟨y0, y1, y2, y3, z0, z1, z2, z3⟩ := fcells H3.fb
          obtain ⟨oc0, oc1, oc2⟩ := ocells H3.ob
          clear H2
          go_upto_region 12 with fail
          go_cut [] (fun wx => ∃ s', Hid (scanB strictT [] (h.take (k + 1)) = s') ∧ FSt w wx w1.heap.size w.heap.size wr.heap.size R c' s' r tx what item)
          case first =>
            cases s
            · have HV : Hid (scanB strictT [] (h.take (k + 1)) = false) := Lib.hid (by rw [HS.out, scanB_snoc, HC.out.2.1]; rfl)
              go_wp2
              go_meet
              case rel => exact ⟨_, HV, H3.put2 hzg hgo (Nat.le_of_lt hzg) _⟩
            · go_wp2_with fail
              refine (unhide C3 _ k ⟨tx, what, item⟩ 2 HK.out H3.bel).mono ?_
              rintro e w4 ⟨rfl, hb4⟩
              have H4 := H3.below hb4
              clear H3 y0 y1 y2 y3 z0 z1 z2 z3 oc0 oc1 oc2 hb4
              obtain ⟨y0, y1, y2, y3, z0, z1, z2, z3⟩ := fcells H4.fb
              obtain ⟨oc0, oc1, oc2⟩ := ocells H4.ob
              have HV : Hid (scanB strictT [] (h.take (k + 1)) = !openB (h.take k) ⟨tx, what, item⟩ 2) := Lib.hid (by rw [HS.out, scanB_snoc, HC.out.2.1, strictT, hE]; simp)
              generalize openB (h.take k) ⟨tx, what, item⟩ 2 = ov at *
              go_wp2
              go_meet
              case rel => exact ⟨_, HV, H4.put2 hzg hgo (Nat.le_of_lt hzg) _⟩
          case rest =>
            obtain ⟨s', HS', H5⟩ := hcut
            have hO5 := H5.ob.lt
            clear H3 y0 y1 y2 y3 z0 z1 z2 z3 oc0 oc1 oc2
            obtain ⟨y0, y1, y2, y3, z0, z1, z2, z3⟩ := fcells H5.fb
            obtain ⟨oc0, oc1, oc2⟩ := ocells H5.ob
            cases r
            · have HV : Hid (scanB rigT [] (h.take (k + 1)) = false) := Lib.hid (by rw [HS.out, scanB_snoc, HC.out.2.2]; rfl)
              go_wp2
              have H6 := H5.put3 hzg hgo (Nat.le_of_lt hzg) false
              go_roundw
              case rel => exact ⟨k + 1, c', s', false, by omega, by go_num, ⟨HC'.out, HS'.out, HV.out⟩, H6.fb, H6.zb, H6.bel⟩
              case measure => simp [intOf]; omega
            · rcases hwh with rfl | rfl
              · have HV : Hid (scanB rigT [] (h.take (k + 1)) = true) := Lib.hid (by rw [HS.out, scanB_snoc, HC.out.2.2, rigT, hE]; simp)
                go_wp2
                have H6 := H5.put3 hzg hgo (Nat.le_of_lt hzg) true
                go_roundw
                case rel => exact ⟨k + 1, c', s', true, by omega, by go_num, ⟨HC'.out, HS'.out, HV.out⟩, H6.fb, H6.zb, H6.bel⟩
                case measure => simp [intOf]; omega
              · go_wp2_with fail
                refine (unhide C3 _ k ⟨tx, 2, item⟩ 1 HK.out H5.bel).mono ?_
                rintro e w6 ⟨rfl, hb6⟩
                have H6 := H5.below hb6
                clear H5 y0 y1 y2 y3 z0 z1 z2 z3 oc0 oc1 oc2 hb6
                obtain ⟨y0, y1, y2, y3, z0, z1, z2, z3⟩ := fcells H6.fb
                obtain ⟨oc0, oc1, oc2⟩ := ocells H6.ob
                have HV : Hid (scanB rigT [] (h.take (k + 1)) = !openB (h.take k) ⟨tx, 2, item⟩ 1) := Lib.hid (by rw [HS.out, scanB_snoc, HC.out.2.2, rigT, hE]; simp)
                generalize openB (h.take k) ⟨tx, 2, item⟩ 1 = ov at *
                go_wp2
                have H7 := H6.put3 hzg hgo (Nat.le_of_lt hzg) (!ov)
                go_roundw
                case rel => exact ⟨k + 1, c', s', !ov, by omega, by go_num, ⟨HC'.out, HS'.out, HV.out⟩, H7.fb, H7.zb, H7.bel⟩
                case measure => simp [intOf]; omega
      · go_wp2_with (go_at_call 62; refine (ends_any ⟨tx, what, item⟩ _).mono ?_; rintro e w2 ⟨rfl, hb2⟩; rw [hE]; obtain ⟨hF2, hZ2, _, hbw2⟩ := hFS w2 hb2)
        have HC2 : Hid (scanB cautT [] (h.take (k + 1)) = c ∧ scanB strictT [] (h.take (k + 1)) = s ∧ scanB rigT [] (h.take (k + 1)) = r) := Lib.hid (by
          rw [HS.out, scanB_snoc, scanB_snoc, scanB_snoc, HC.out.1, HC.out.2.1, HC.out.2.2]; simp [cautT, strictT, rigT, hE])
        go_roundw
        case rel => exact ⟨k + 1, c, s, r, by omega, by go_num, HC2, hF2, hZ2, hbw2⟩
        case measure => simp [intOf]; omega
    · have hkn : k = n := by omega
      have HF : Hid (facesF h = ⟨R, c, s, r && s⟩) := Lib.hid (by
        have e : h.take k = h := List.take_of_length_le (by rw [HL.out]; omega)
        have h1 := HC.out
        rw [e] at h1
        rw [HRF.out, h1.1, h1.2.1, h1.2.2])
      obtain ⟨y0, y1, y2, y3, z0, z1, z2, z3⟩ := fcells hF
      obtain ⟨v0, v1, v2, v3, u0, u1, u2, u3⟩ := fcells hZ
      clear HC hkn
      cases r
      · have hZ2 := hZ.far (p := ⟨w1.heap.size, 3, none⟩) (Nat.ne_of_lt hzg) (.bool false)
        have hR := (((hZ2.put 0 (.bool R)).put 1 (.bool c)).put 2 (.bool s)).put 3 (.bool false)
        obtain ⟨r0, r1, r2, r3, _⟩ := fcells (a := R) (b := c) (c := s) (d := false) hR
        go_wp2
        refine bodyPost_ret (v := .tuple #[.agg #[.bool R, .bool c, .bool s, .bool false], .nilIface]) (by simp [results, Tryz.results56, go_sem, r0, r1, r2, r3]) rfl ?_
        exact ⟨by rw [HF.out]; rfl, ((((hbw.setCell (p := ⟨w1.heap.size, 3, none⟩) (Nat.le_of_lt hzg) _).setCell (p := ⟨w.heap.size, 0, none⟩) (Nat.le_refl _) _).setCell (p := ⟨w.heap.size, 1, none⟩) (Nat.le_refl _) _).setCell (p := ⟨w.heap.size, 2, none⟩) (Nat.le_refl _) _).setCell (p := ⟨w.heap.size, 3, none⟩) (Nat.le_refl _) _⟩
      · cases s
        · have hZ2 := hZ.far (p := ⟨w1.heap.size, 3, none⟩) (Nat.ne_of_lt hzg) (.bool false)
          have hR := (((hZ2.put 0 (.bool R)).put 1 (.bool c)).put 2 (.bool false)).put 3 (.bool false)
          obtain ⟨r0, r1, r2, r3, _⟩ := fcells (a := R) (b := c) (c := false) (d := false) hR
          go_wp2
          refine bodyPost_ret (v := .tuple #[.agg #[.bool R, .bool c, .bool false, .bool false], .nilIface]) (by simp [results, Tryz.results56, go_sem, r0, r1, r2, r3]) rfl ?_
          exact ⟨by rw [HF.out]; rfl, ((((hbw.setCell (p := ⟨w1.heap.size, 3, none⟩) (Nat.le_of_lt hzg) _).setCell (p := ⟨w.heap.size, 0, none⟩) (Nat.le_refl _) _).setCell (p := ⟨w.heap.size, 1, none⟩) (Nat.le_refl _) _).setCell (p := ⟨w.heap.size, 2, none⟩) (Nat.le_refl _) _).setCell (p := ⟨w.heap.size, 3, none⟩) (Nat.le_refl _) _⟩
        · have hZ2 := hZ.far (p := ⟨w1.heap.size, 3, none⟩) (Nat.ne_of_lt hzg) (.bool true)
          have hR := (((hZ2.put 0 (.bool R)).put 1 (.bool c)).put 2 (.bool true)).put 3 (.bool true)
          obtain ⟨r0, r1, r2, r3, _⟩ := fcells (a := R) (b := c) (c := true) (d := true) hR
          go_wp2
          refine bodyPost_ret (v := .tuple #[.agg #[.bool R, .bool c, .bool true, .bool true], .nilIface]) (by simp [results, Tryz.results56, go_sem, r0, r1, r2, r3]) rfl ?_
          exact ⟨by rw [HF.out]; rfl, ((((hbw.setCell (p := ⟨w1.heap.size, 3, none⟩) (Nat.le_of_lt hzg) _).setCell (p := ⟨w.heap.size, 0, none⟩) (Nat.le_refl _) _).setCell (p := ⟨w.heap.size, 1, none⟩) (Nat.le_refl _) _).setCell (p := ⟨w.heap.size, 2, none⟩) (Nat.le_refl _) _).setCell (p := ⟨w.heap.size, 3, none⟩) (Nat.le_refl _) _⟩
end Go.Proofs.YtaaahfbcpgdoiaaGreatDoor
