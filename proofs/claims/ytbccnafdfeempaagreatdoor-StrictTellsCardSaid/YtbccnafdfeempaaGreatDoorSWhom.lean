
/-
  CONTRACTS of the reference's laneref2.Runner.forWhom and ring.
-/
import Derived.Test.YtbccnafdfeempaaGreatDoorQ33
import Derived.Test.YtbccnafdfeempaaGreatDoorQ7

namespace Go.Proofs.YtbccnafdfeempaaGreatDoor
open Go.RowKit

set_option maxRecDepth 100000 in
set_option maxHeartbeats 2000000 in
theorem qwhom_any {way : Int} {lo : Nat} {s : RSt} {L : QLay} {tag : Nat → Int × Nat} (tx : Int) (w : World) (H : QHeap way lo w s L tag) :
    Calls Tryz.prog 19 #[.pointer (some ⟨L.g, 0, none⟩), .int .i64 tx] w fun e w' => ∃ v, e = .returned v ∧ w'.ownsRow w.heap.size 3 1 v (whomF s.T tx).length (cellsI (whomF s.T tx)) ∧ Below w.heap.size w w' := by
  have hW6 := linv_waits H.tab.inv
  have hH36 := linv_held H.tab.inv
  have hT := H.tabR
  have C := hide (swaiting_any lo L.g L.vH L.vW s.T.H s.T.W tx w hT (by omega))
  have hgl := hT.blk.lt
  rcases find_idx (W := s.T.W) (tx := tx) with ⟨h1, h2⟩ | ⟨i, l, h1, h2, h3⟩
  · have e1 : whomF s.T tx = [] := by unfold whomF; rw [h1]
    rw [e1]
    generalize idxGo (fun y : HOp => decide (y.tx = tx)) 0 s.T.W = j at *
    have h2b : decide (j < 0) = true := decide_eq_true h2
    clear h1 hT H
    go_enter Tryz.func19, Tryz.ntmps19
    go_wp2_with fail
    refine (unhide C).mono ?_
    rintro e w1 ⟨rfl, rfl⟩
    go_wp2
    go_ret
    exact ⟨_, rfl, World.ownsRow_nil _ _ _ _, Below.refl _ _⟩
  · have e1 : whomF s.T tx = forF s.T l := by unfold whomF; rw [h1]
    rw [e1]
    have CF := hide (sfor_any lo L.g L.vH L.vW s.T.H s.T.W l w.drew (hT.below (Below.refl _ _).drew) (by omega) (by omega))
    rw [show (⟨s.T.H, s.T.W⟩ : LTab) = s.T from rfl] at CF
    generalize hq : forF s.T l = q at *
    obtain ⟨g, vH, vW, vT, vV, vB, op⟩ := L
    obtain ⟨A2, c2, hvW⟩ := own_slice hT.waits
    simp only at hvW
    subst hvW
    have k2 := hT.blk.cellS (i := 2) (v := .slice A2 s.T.W.length c2) rfl
    have hR := rd_own hT.waits
    obtain ⟨nw, hnw⟩ : ∃ nw, s.T.W.length = nw := ⟨_, rfl⟩
    have hil : i < nw := by rw [← hnw]; exact (List.getElem?_eq_some_iff.1 h2).1
    rw [hnw] at hR
    simp only [hnw] at k2
    obtain ⟨b, off, o, he, hb, ho, z0, z1, z2⟩ := hR.op (k := i) hil
    cases he
    obtain rfl : l = o := Option.some.inj (h2.symm.trans ho)
    rw [h3] at C
    obtain ⟨l1, l2, l3⟩ := l
    unfold HOp.val at CF
    simp only at z0 z1 z2 hgl k2
    have i0 : ¬ (i : Int) < 0 := by omega
    have i1 : (0 : Int) ≤ (i : Int) := by omega
    have i2 : (i : Int) < (nw : Int) := by omega
    clear h1 h2 h3 hT H hR hq ho hnw
    go_enter Tryz.func19, Tryz.ntmps19
    go_wp2_with fail
    refine (unhide C).mono ?_
    rintro e w1 ⟨rfl, rfl⟩
    clear C
    go_wp2
    go_still_tail 11, (by kernel_rfl)
    change wpList _ _ _ _ _ w.drew
    go_wp2_with fail
    refine (unhide CF).mono ?_
    rintro e w9 ⟨v, rfl, ho9, hb9⟩
    go_wp2
    go_ret
    exact ⟨_, rfl, ho9, (Below.refl _ _).drew.trans hb9⟩

/-! ### The search for a ring. -/
theorem whomE_step {T : LTab} {d : Nat} (h1 : 1 ≤ d) (h6 : d ≤ 6) : (sixI.take d).flatMap (fun d => (whomF T d).map fun x => (d, x)) = (sixI.take (d - 1)).flatMap (fun d => (whomF T d).map fun x => (d, x)) ++ (whomF T (d : Int)).map fun x => ((d : Int), x) := by
  obtain ⟨k, rfl⟩ : ∃ k, d = k + 1 := ⟨d - 1, by omega⟩
  have hk : sixI[k]? = some ((k + 1 : Nat) : Int) := by
    match k, h6 with
    | 0, _ => rfl
    | 1, _ => rfl
    | 2, _ => rfl
    | 3, _ => rfl
    | 4, _ => rfl
    | 5, _ => rfl
    | _ + 6, h => omega
  rw [List.take_add_one, hk, Option.toList_some, List.flatMap_append]
  simp
theorem whomE_len {T : LTab} (I : LInv T) (d : Nat) : ((sixI.take d).flatMap (fun d => (whomF T d).map fun x => (d, x))).length ≤ 36 := by
  have h : ∀ l : List Int, (l.flatMap (fun d => (whomF T d).map fun x => (d, x))).length ≤ l.length * 6 := by
    intro l
    induction l with
    | nil => simp
    | cons a l ih =>
      have := whomF_len I a
      rw [List.flatMap_cons, List.length_append, List.length_map, List.length_cons]
      omega
  have h2 := h (sixI.take d)
  have h3 : (sixI.take d).length ≤ 6 := by rw [List.length_take]; simp [sixI]; omega
  omega
set_option maxRecDepth 100000 in
set_option maxHeartbeats 4000000 in
theorem qring_any {way : Int} {lo : Nat} {s : RSt} {L : QLay} {tag : Nat → Int × Nat} (t : Nat) (h1 : 1 ≤ t) (h6 : t ≤ 6) (w : World) (H : QHeap way lo w s L tag) :
    Calls Tryz.prog 20 #[.pointer (some ⟨L.g, 0, none⟩), .int .i64 t] w fun e w' => e = .returned (.bool (rngF s.T t)) ∧ Below w.heap.size w w' := by
  have hI := H.tab.inv
  have HI := Lib.hid hI
  have CW := hide (fun (d : Nat) w1 (hb : Below w.heap.size w w1) => qwhom_any (d : Int) w1 (H.below hb))
  have HWR := Lib.hid (ring_ways hI h1 h6)
  have HOK := Lib.hid (whomE_ok hI)
  have hwl : (waysF (whomE s.T)).length = 49 := by rw [waysF_eq, rwM_len, mat_len]
  have HWL := Lib.hid hwl
  have HST := Lib.hid (fun d (a : 1 ≤ d) (b : d ≤ 6) => whomE_step (T := s.T) a b)
  have HLN := Lib.hid (fun d => whomE_len hI d)
  have H6 := Lib.hid (fun d => whomF_len hI d)
  have HEE : Hid ((sixI.take 6).flatMap (fun d => (whomF s.T d).map fun x => (d, x)) = whomE s.T) := Lib.hid rfl
  obtain ⟨F, hF⟩ : ∃ F : Nat → List (Int × Int), F = fun d => (sixI.take d).flatMap (fun d => (whomF s.T d).map fun x => (d, x)) := ⟨_, rfl⟩
  have HF : Hid (∀ d, F d = (sixI.take d).flatMap (fun d => (whomF s.T d).map fun x => (d, x))) := Lib.hid (fun d => by rw [hF])
  have F0 : F 0 = [] := by rw [hF]; rfl
  have HF0 := Lib.hid F0
  generalize whomE s.T = E at *
  obtain ⟨N, hN⟩ : ∃ N : Int → List Int, N = whomF s.T := ⟨_, rfl⟩
  rw [← hN] at HST HLN H6 CW HEE HF
  generalize rngF s.T t = R at *
  clear hI H hF hN hwl F0
  have t1 : (0 : Int) ≤ (t : Int) := by omega
  have t7 : (t : Int) < 7 := by omega
  go_enter Tryz.func20, Tryz.ntmps20
  go_wp2
  go_loopw [5, 6] (fun s5 s6 wr => ∃ d m : Nat, 1 ≤ d ∧ d ≤ 7 ∧ s6 = .int .i64 d ∧ m ≤ 36 ∧ wr.ownsRow w.heap.size 88 2 s5 m (dcells (F (d - 1))) ∧ Below w.heap.size w wr) (fun _ s6 _ => 7 - (intOf s6).toNat)
  case atStart => exact ⟨1, 0, by omega, by omega, rfl, by omega, by rw [show (1 : Nat) - 1 = 0 from rfl, HF0.out]; exact World.ownsRow_nil _ _ _ _, Below.refl _ _⟩
  case round =>
    obtain ⟨d, m, hd1, hd7, rfl, hm36, ho5, hbw⟩ := hrel
    obtain ⟨A5o, c5o, rfl⟩ := own_slice ho5
    by_cases hlt : d ≤ 6
    · have CW1 := hide (unhide CW d wr hbw)
      have HS : Hid (F d = F (d - 1) ++ (N (d : Int)).map fun x => ((d : Int), x)) := Lib.hid (by rw [HF.out, HF.out]; exact HST.out d hd1 hlt)
      have HLD : Hid ((F d).length ≤ 36) := Lib.hid (by rw [HF.out]; exact HLN.out d)
      have HL6 := Lib.hid (H6.out (d : Int))
      have hdi : (d : Int) ≤ 6 := by omega
      obtain ⟨G, hG⟩ : ∃ G, F (d - 1) = G := ⟨_, rfl⟩
      rw [hG] at HS ho5
      generalize N (d : Int) = X at *
      obtain ⟨nx, hnx⟩ : ∃ nx, X.length = nx := ⟨_, rfl⟩
      have HNX := Lib.hid hnx
      rw [hnx] at CW1 HL6
      have hmG := rd_own ho5
      have HMG : Hid (m = G.length) := Lib.hid (by have := hmG.dlen; omega)
      clear hmG hG hnx
      go_wp2_with fail
      refine (unhide CW1).mono ?_
      rintro e w2 ⟨v7, rfl, ho7, hb2⟩
      obtain ⟨A7, c7, rfl⟩ := own_slice ho7
      have ho52 := own_below ho5 hb2 (Nat.le_refl _)
      have hbw2 := hbw.trans (hb2.mono hbw.size)
      have ho72 := own_mono ho7 hbw.size
      clear CW1 ho5 hb2 ho7
      go_wp2
      go_loopw [5, 8] (fun s5 s8 wq => ∃ i : Nat, i ≤ nx ∧ s8 = .int .i64 i ∧ wq.ownsRow w.heap.size 88 2 s5 (m + i) (dcells (G ++ (X.take i).map fun x => ((d : Int), x))) ∧ wq.ownsRow w.heap.size 3 1 (.slice A7 nx c7) nx (cellsI X) ∧ Below w.heap.size w wq) (fun _ s8 _ => nx - (intOf s8).toNat)
      case atStart => exact ⟨0, Nat.zero_le _, rfl, by simpa using ho52, ho72, hbw2⟩
      case round =>
        clear ho52 ho72 hbw2
        obtain ⟨i, hi, rfl, ho5, ho7, hbq⟩ := hrel
        obtain ⟨A5, c5, rfl⟩ := own_slice ho5
        by_cases hlt2 : i < nx
        · obtain ⟨b, off, x, he, hb, hx, z0⟩ := (rd_own ho7).int (k := i) hlt2
          cases he
          have HT := Lib.hid (take_snoc hx)
          have hli : (i : Int) < (nx : Int) := by omega
          have hl0 : (0 : Int) ≤ (i : Int) := by omega
          have hm9 : m + i + 1 ≤ 1000 := by have := HL6.out; omega
          have hz := hbq.size
          go_wp2_with (at_builtin; (refine wpList_app rfl (.tmp 23) (.tmp 30) _ rfl w.heap.size slt_edge (n := m + i) (xs := dcells (G ++ (X.take i).map fun x => ((d : Int), x))) (m := 1) (news := dcells [((d : Int), x)]) rfl (own_alloc ho5 _) rfl (rd_new' _ _ (dcells [((d : Int), x)]) (by simp) rfl) (oneD _) (by omega) (by simp; omega) ?_; intro v6 w6 hown6 hg6 hb6 hat6 hne6))
          rw [← dcells_append] at hown6
          have HE : Hid (G ++ (X.take i).map (fun x => ((d : Int), x)) ++ [((d : Int), x)] = G ++ (X.take (i + 1)).map fun x => ((d : Int), x)) := Lib.hid (by rw [HT.out, List.map_append, List.append_assoc]; rfl)
          rw [HE.out] at hown6
          have ho76 := own_other (own_alloc ho7 (.cells (dcells [((d : Int), x)]).toArray 88)) (own_alloc ho5 (.cells (dcells [((d : Int), x)]).toArray 88)) (by decide) hg6
          have hbw6 := (hbq.alloc hz (.cells (dcells [((d : Int), x)]).toArray 88)).trans hb6
          go_roundw
          case rel => exact ⟨i + 1, by omega, by go_num, hown6, ho76, hbw6⟩
          case measure => simp [intOf]; omega
        · obtain rfl : i = nx := by omega
          have hTK : X.take i = X := List.take_of_length_le (by rw [HNX.out]; omega)
          rw [hTK, ← HS.out] at ho5
          have hle : m + i ≤ 36 := by
            have h1 := (rd_own ho5).dlen
            have := HLD.out
            omega
          have e1 : d + 1 - 1 = d := by omega
          rw [← e1] at ho5
          clear hTK e1
          go_wp2
          go_roundw
          case rel => exact ⟨d + 1, m + i, by omega, by omega, by go_num, hle, ho5, hbq⟩
          case measure => simp [intOf]; omega
    · obtain rfl : d = 7 := by omega
      rw [show (7 : Nat) - 1 = 6 from rfl, HF.out, HEE.out] at ho5
      have CWY := hide (rways_any A5o m c5o E wr (rd_own ho5) (by omega) HOK.out)
      generalize waysF E = T at *
      clear HST HLN H6 HF CW ho5
      go_wp2_with fail
      refine (unhide CWY).mono ?_
      rintro e w10 ⟨rfl, hb10⟩
      have hbw10 := hbw.trans (hb10.mono hbw.size)
      have hR := Blk.new w10 89 ((List.replicate 49 false).map .bool)
      have hbw11 := hbw10.alloc hbw10.size (.cells ((List.replicate 49 false).map Value.bool).toArray 89)
      have hts : ((T.map Value.bool).toArray).size = 49 := by simp [HWL.out]
      have hsz : (Tryz.prog.info? 89).map (·.size) = some ((T.map Value.bool).toArray).size := by rw [hts]; kernel_rfl
      have hold : ((List.replicate 49 false).map Value.bool).toArray.size = ((T.map Value.bool).toArray).size := by rw [hts]; rfl
      have hone : ((T.map Value.bool).toArray).all (·.oneCell') = true := by
        rw [Array.all_eq_true_iff_forall_mem]; intro v hv; simp at hv; rcases hv with ⟨_, rfl⟩ | ⟨_, rfl⟩ <;> rfl
      have hR9 := setRow_heap _ w10.heap.size _ (T.map Value.bool).toArray 89 _ hR
      have hbw12 := below_setRow hbw11 hbw10.size (T.map Value.bool).toArray
      have hRB : Blk _ w10.heap.size 89 (T.map .bool) := hR9
      obtain ⟨w11, hw11⟩ : ∃ w11, (w10.alloc (.cells ((List.replicate 49 false).map Value.bool).toArray 89)).setRow w10.heap.size (T.map Value.bool).toArray = w11 := ⟨_, rfl⟩
      rw [hw11] at hRB hbw12
      have HW11 := Lib.hid hw11
      have hlT := hRB.lt
      have sT := hRB.cellS (i := t * 7 + t) (v := .bool R) (by rw [List.getElem?_map, HWR.out]; rfl)
      clear CWY hb10 hbw hbw10 hw11 hR9
      go_wp2_with (refine wpList_store_row rfl _ _ _ rfl w10.heap.size (T.map Value.bool).toArray rfl rfl 89 _ hR hsz hold hone ?_; change wpList _ _ _ _ _ ((w10.alloc (.cells ((List.replicate 49 false).map Value.bool).toArray 89)).setRow w10.heap.size (T.map Value.bool).toArray); rw [HW11.out])
      go_ret
      exact ⟨rfl, hbw12⟩
end Go.Proofs.YtbccnafdfeempaaGreatDoor
