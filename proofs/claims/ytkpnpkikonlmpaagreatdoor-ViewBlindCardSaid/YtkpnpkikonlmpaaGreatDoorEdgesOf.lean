
/-
  CONTRACTS of odds.EdgesOf, Edges: the edges between deals that are done.
-/
import Derived.Test.YtkpnpkikonlmpaaGreatDoorSortE
import Derived.Test.YtkpnpkikonlmpaaGreatDoorM7
import Derived.Test.YtkpnpkikonlmpaaGreatDoorM1
import Derived.Deep.RegionHeld3

namespace Go.Proofs.YtkpnpkikonlmpaaGreatDoor
open Go.RowKit

def pairTx (D : List HOp) (p : Int × Int) : Int × Int := ((D.getD p.1.toNat ⟨0, 0, 0⟩).tx, (D.getD p.2.toNat ⟨0, 0, 0⟩).tx)
theorem pairTx_edges (D : List HOp) : sortS ltE ((pairsL D).map (pairTx D)) = sortS ltE (edgeP D) := by
  refine sortS_ext sloE fun ⟨x, y⟩ => ?_
  rw [mem_edgeP, List.mem_map]
  constructor
  · rintro ⟨⟨p, q⟩, hp, he⟩
    obtain ⟨j, k, a, b, hjk, ha, hb, rfl, rfl, ho⟩ := mem_pairsL.1 hp
    unfold pairTx at he
    simp only [Int.toNat_natCast, List.getD_eq_getElem?_getD, ha, hb, Option.getD_some, Prod.mk.injEq] at he
    exact ⟨j, k, a, b, hjk, ha, hb, ho, he.1.symm, he.2.symm⟩
  · rintro ⟨j, k, a, b, hjk, ha, hb, ho, rfl, rfl⟩
    refine ⟨((j : Int), (k : Int)), mem_pairsL.2 ⟨j, k, a, b, hjk, ha, hb, rfl, rfl, ho⟩, ?_⟩
    unfold pairTx
    simp only [Int.toNat_natCast, List.getD_eq_getElem?_getD, ha, hb, Option.getD_some]
theorem map_snoc {α β : Type} {l : List α} {k : Nat} {x : α} (f : α → β) (h : l[k]? = some x) : (l.take (k + 1)).map f = (l.take k).map f ++ [f x] := by rw [tkSnoc h, List.map_append]; rfl

set_option maxRecDepth 100000 in
set_option maxHeartbeats 8000000 in
theorem edgesOf_any (A : Option Addr) (n cap : Nat) (h : List HOp) (w : World) (hr : Rd w w.heap.size 3 A n (cellsH h)) (hn : n ≤ 40) (ht : ∀ o ∈ h, 1 ≤ o.tx ∧ o.tx ≤ 6) :
    Calls Tryz.prog 52 #[.slice A n cap] w fun e w' => ∃ v m, e = .returned v ∧ w'.ownsRow w.heap.size 76 2 v m (dcells (edgesF h)) ∧ m ≤ 1600 ∧ Below w.heap.size w w' := by
  have hl := hr.hlen
  have hdl : (doneL h).length ≤ 40 := by have := List.length_filter_le (fun o : HOp => (flagsF h).getD o.tx.toNat false) h; unfold doneL; omega
  have C := hide (doneOf_any A n cap h w hr (by omega) ht)
  have HF : Hid (edgesF h = sortS ltE ((pairsL (doneL h)).map (pairTx (doneL h)))) := Lib.hid (by unfold edgesF; rw [pairTx_edges])
  clear hl ht
  generalize edgesF h = R at *
  generalize doneL h = D at *
  go_enter Tryz.func52, Tryz.ntmps52
  go_wp2_with fail
  refine (unhide C).mono ?_
  rintro e w1 ⟨A1, m1, c1, rfl, ho1, hb1⟩
  have hd1 := rd_own ho1
  have hl1 := hd1.hlen
  have C2 := hide (pairs_any A1 m1 c1 D w1 hd1 (by omega))
  have HRD := hide (fun w2 (hb : Below w1.heap.size w1 w2) => hd1.below hb)
  have HL1 := Lib.hid hl1
  clear C ho1 hd1 hl1
  go_wp2_with fail
  refine (unhide C2).mono ?_
  rintro e w2 ⟨v2, mp, rfl, ho2, hmp, hb2⟩
  obtain ⟨A2, c2, rfl⟩ := own_slice ho2
  have hbw2 := hb1.trans (hb2.mono hb1.size)
  have hd2 := rd_own ho2
  have HLP := Lib.hid hd2.dlen
  have HRP := hide (fun w3 (hb : Below w2.heap.size w2 w3) => hd2.below hb)
  clear C2 ho2 hd2
  go_wp2
  go_loopw [3, 11] (fun s3 s11 wr => ∃ k : Nat, k ≤ mp ∧ s11 = .int .i64 k ∧ wr.ownsRow w2.heap.size 76 2 s3 k (dcells (((pairsL D).take k).map (pairTx D))) ∧ Below w2.heap.size w2 wr) (fun _ s11 _ => mp - (intOf s11).toNat)
  case atStart => exact ⟨0, Nat.zero_le _, rfl, World.ownsRow_nil _ _ _ _, Below.refl _ _⟩
  case round =>
    obtain ⟨k, hk, rfl, ho3, hb3⟩ := hrel
    obtain ⟨A3, c3, rfl⟩ := own_slice ho3
    have hb13 := hb2.trans (hb3.mono hb2.size)
    by_cases hlt : k < mp
    · obtain ⟨b, off, p, he, hb, hp, c0, c1'⟩ := (unhide HRP wr hb3).pr (k := k) hlt
      cases he
      have HS := Lib.hid (map_snoc (pairTx D) hp)
      obtain ⟨x, y⟩ := p
      obtain ⟨i, j, a, d, hij, ha, hd, rfl, rfl, _⟩ := mem_pairsL.1 (List.mem_of_getElem? hp)
      have hil : i < m1 := by rw [← HL1.out]; exact (List.getElem?_eq_some_iff.1 ha).1
      have hjl : j < m1 := by rw [← HL1.out]; exact (List.getElem?_eq_some_iff.1 hd).1
      obtain ⟨b1, o1, a', he, hb1', ha', d0, d1, d2⟩ := (unhide HRD wr hb13).op (k := i) hil
      cases he
      obtain ⟨_, _, d', he, _, hd', f0, f1, f2⟩ := (unhide HRD wr hb13).op (k := j) hjl
      cases he
      rw [ha] at ha'
      cases ha'
      rw [hd] at hd'
      cases hd'
      have HP : Hid (pairTx D ((i : Int), (j : Int)) = (a.tx, d.tx)) := Lib.hid (by
        unfold pairTx
        simp only [Int.toNat_natCast, List.getD_eq_getElem?_getD, ha, hd, Option.getD_some])
      have hz := hb3.size
      have hz1 := hb13.size
      have n0 : (0 : Int) ≤ (i : Int) := by omega
      have n1 : (i : Int) < (m1 : Int) := by omega
      have n2 : (0 : Int) ≤ (j : Int) := by omega
      have n3 : (j : Int) < (m1 : Int) := by omega
      have hbo : b < wr.heap.size := by omega
      have hbo1 : b1 < wr.heap.size := by omega
      clear ha hd hp d1 d2 f1 f2 hij
      simp only at c0 c1'
      obtain ⟨tx1, what1, item1⟩ := a
      obtain ⟨tx2, what2, item2⟩ := d
      simp only at d0 f0 HP
      go_wp2
      have B5 := Blk.new wr 76 [.int .i64 (i : Int), .int .i64 (j : Int)]
      have ho5 := own_alloc ho3 (.cells #[.int .i64 (i : Int), .int .i64 (j : Int)] 76)
      have hb5 : Below w2.heap.size w2 (wr.alloc (.cells #[.int .i64 (i : Int), .int .i64 (j : Int)] 76)) := hb3.alloc hz _
      have g0 : (wr.alloc (.cells #[.int .i64 (i : Int), .int .i64 (j : Int)] 76)).cell? ⟨b1, o1 + i * 3, none⟩ = some (.int .i64 tx1) := (World.cell?_alloc_lt _ _ _ hbo1).trans d0
      have g1 : (wr.alloc (.cells #[.int .i64 (i : Int), .int .i64 (j : Int)] 76)).cell? ⟨b1, o1 + j * 3, none⟩ = some (.int .i64 tx2) := (World.cell?_alloc_lt _ _ _ hbo1).trans f0
      have hne : ∀ kk, (Value.slice A3 k c3).ownBlock = some kk → wr.heap.size ≠ kk := fun kk hkk => by have := (ho3.lt kk hkk).2; omega
      have hxz : wr.heap.size < (wr.alloc (.cells #[.int .i64 (i : Int), .int .i64 (j : Int)] 76)).heap.size := by simp
      obtain ⟨wx, hwx⟩ : ∃ wx, wr.alloc (.cells #[.int .i64 (i : Int), .int .i64 (j : Int)] 76) = wx := ⟨_, rfl⟩
      have B5' : Blk wx wr.heap.size 76 [.int .i64 (i : Int), .int .i64 (j : Int)] := by rw [← hwx]; exact B5
      rw [hwx] at ho5 hb5 g0 g1 hxz
      rw [hwx]
      have hz5 := hb5.size
      have hbw1 : b1 < w2.heap.size := by have := hb2.size; omega
      have ho6 : wx.drew.ownsRow w2.heap.size 76 2 (.slice A3 k c3) k (dcells (((pairsL D).take k).map (pairTx D))) := ho5
      have hb6 : Below w2.heap.size w2 wx.drew := hb5.drew
      clear B5 hwx d0 f0 c0 c1' ho3 hb3 hb13 hbo hbo1 hz hz1
      generalize wr.heap.size = ob at *
      have e0 := B5'.cellS (i := 0) (v := .int .i64 (i : Int)) rfl
      have e1 := B5'.cellS (i := 1) (v := .int .i64 (j : Int)) rfl
      have oneX := oneD [(tx1, tx2)]
      go_region_held3 (fun w' => w'.cell? ⟨ob, 0, none⟩ = some (.int .i64 (i : Int)) ∧ w'.cell? ⟨ob, 1, none⟩ = some (.int .i64 (j : Int)) ∧ w'.cell? ⟨b1, o1 + i * 3, none⟩ = some (.int .i64 tx1) ∧ w'.cell? ⟨b1, o1 + j * 3, none⟩ = some (.int .i64 tx2)) (first | exact hcell7 | exact ⟨e0, e1, g0, g1⟩ | exact ⟨(World.cell?_alloc_lt wx _ _ hxz).trans e0, (World.cell?_alloc_lt wx _ _ hxz).trans e1, (World.cell?_alloc_lt wx _ _ (show b1 < wx.heap.size from by omega)).trans g0, (World.cell?_alloc_lt wx _ _ (show b1 < wx.heap.size from by omega)).trans g1⟩ | go_keep)
        (first
          | ((refine step_app rfl (.tmp 15) (.tmp 29) _ rfl w2.heap.size slt_edge (n := k) (xs := dcells (((pairsL D).take k).map (pairTx D))) (m := 1) (news := dcells [(tx1, tx2)]) rfl (own_alloc ho6 _) rfl (rd_new' _ _ (dcells [(tx1, tx2)]) (by simp) rfl) oneX (by omega) (by simp; omega) ?_; intro v7 w7 hown7 hg7 hb7; have hB7 := (((B5'.drew).alloc (.cells (dcells [(tx1, tx2)]).toArray 76)).grown hg7 hne); have hcell7 : w7.cell? ⟨ob, 0, none⟩ = some (.int .i64 (i : Int)) ∧ w7.cell? ⟨ob, 1, none⟩ = some (.int .i64 (j : Int)) ∧ w7.cell? ⟨b1, o1 + i * 3, none⟩ = some (.int .i64 tx1) ∧ w7.cell? ⟨b1, o1 + j * 3, none⟩ = some (.int .i64 tx2) := ⟨hB7.cellS rfl, hB7.cellS rfl, (hb7.cell (p := ⟨b1, _, none⟩) hbw1).trans ((World.cell?_alloc_lt wx _ _ (show b1 < wx.heap.size from by omega)).trans g0), (hb7.cell (p := ⟨b1, _, none⟩) hbw1).trans ((World.cell?_alloc_lt wx _ _ (show b1 < wx.heap.size from by omega)).trans g1)⟩)))
      rw [← dcells_append, ← HP.out, ← HS.out] at hown7
      have hb8 := (hb6.alloc hb6.size (.cells (dcells [(tx1, tx2)]).toArray 76)).trans hb7
      go_wp2
      go_roundw
      case rel => exact ⟨k + 1, by omega, by go_num, hown7, hb8⟩
      case measure => simp [intOf]; omega
    · have HT : Hid ((pairsL D).take k = pairsL D) := Lib.hid (List.take_of_length_le (by rw [HLP.out]; omega))
      rw [HT.out] at ho3
      have C3 := hide (sortedE_own ho3 hb3.size (by omega))
      have hbw3 := hbw2.trans (hb3.mono hbw2.size)
      go_wp2_with fail
      refine (unhide C3).mono ?_
      rintro e w4 ⟨m4, rfl, ho4, hm4, hb4⟩
      go_wp2
      go_ret
      exact ⟨_, _, rfl, by rw [HF.out]; exact own_mono ho4 hbw2.size, by omega, hbw2.trans ((hb3.trans hb4).mono hbw2.size)⟩

end Go.Proofs.YtkpnpkikonlmpaaGreatDoor
