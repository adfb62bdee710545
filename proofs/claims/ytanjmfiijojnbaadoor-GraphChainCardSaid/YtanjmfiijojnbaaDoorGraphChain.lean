
/-
  PROVED: lanelaw4.GraphChain returns true, for every n: a chain of deals has that order; closed it is a ring of all, and has none. The variable errors.errorType starts as the program's text lays it (the card's tie); no condition beyond the form's own reach.
-/
import Derived.Test.YtanjmfiijojnbaaDoorRing
import Derived.Test.YtanjmfiijojnbaaDoorPairs2
import Derived.Test.YtanjmfiijojnbaaDoorDoor
namespace Go.Proofs.YtanjmfiijojnbaaDoor.graphChain
open Go.ChangeShapes Go.WideShapes Go.ChangeAt Go.RowKit Go.Proofs.YtanjmfiijojnbaaDoor

/-! ### The plain law. -/
theorem namedF_eq (E : List (Int × Int)) : namedF E = sortS ltI (ends2 E) := comp_sort sloI (fun _ => sortI_mem) (sortI_up _)
theorem sortI_self {l : List Int} (h : Up ltI l) : sortI l = l := by
  have h1 : compL (sortI l) = sortS ltI l := comp_sort sloI (fun _ => sortI_mem) (sortI_up _)
  have h2 : (sortI l).Nodup := (List.mergeSort_perm l _).nodup_iff.2 (h.imp fun {a b} hab e => by rw [e] at hab; simp [ltI] at hab)
  have h3 : Up ltI (sortI l) := by
    refine (List.Pairwise.and h2 (sortI_up l)).imp fun {a b} ⟨g1, g2⟩ => ?_
    simp [ltI] at g2 ⊢; omega
  exact up_ext sloI h3 h fun _ => sortI_mem
theorem topF_eq (E : List (Int × Int)) : topF E (namedF E) = topGo E (sortS ltI (ends2 E)).length (sortS ltI (ends2 E)) [] := by
  unfold topF
  rw [namedF_eq, sortI_self (up_sortS sloI _)]
def chainL (k : Nat) : List (Int × Int) := (List.range k).map fun i : Nat => ((i : Int) + 1, (i : Int) + 1 + 1)
def upL (k : Nat) : List Int := (List.range k).map fun i : Nat => (i : Int) + 1
theorem chainL_succ (k : Nat) : chainL (k + 1) = chainL k ++ [((k : Int) + 1, (k : Int) + 1 + 1)] := by simp [chainL, List.range_succ]
theorem upL_get {k i : Nat} (h : i < k) : (upL k)[i]? = some ((i : Int) + 1) := by simp [upL, h]
theorem chain_dec : ∀ j : Fin 5, checkG (chainL (j.val + 1)) = 0 ∧ topGo (chainL (j.val + 1)) (sortS ltI (ends2 (chainL (j.val + 1)))).length (sortS ltI (ends2 (chainL (j.val + 1)))) [] = some (upL (j.val + 2)) ∧
    reachF (chainL (j.val + 1)) (1 : Nat) (j.val + 2 : Nat) = true ∧ reachF (chainL (j.val + 1)) (j.val + 2 : Nat) (1 : Nat) = false ∧
    checkG (chainL (j.val + 1) ++ [(((j.val + 2 : Nat) : Int), 1)]) = 0 ∧ topGo (chainL (j.val + 1) ++ [(((j.val + 2 : Nat) : Int), 1)]) (sortS ltI (ends2 (chainL (j.val + 1) ++ [(((j.val + 2 : Nat) : Int), 1)]))).length (sortS ltI (ends2 (chainL (j.val + 1) ++ [(((j.val + 2 : Nat) : Int), 1)]))) [] = none ∧
    ringF (chainL (j.val + 1) ++ [(((j.val + 2 : Nat) : Int), 1)]) = some (upL (j.val + 2)) := by decide +kernel
theorem chain_facts (N : Nat) (h1 : 2 ≤ N) (h2 : N ≤ 6) : checkG (chainL (N - 1)) = 0 ∧ (orderE (chainL (N - 1)) = 0 ∧ orderL (chainL (N - 1)) = upL N) ∧ reachF (chainL (N - 1)) (1 : Nat) N = true ∧ reachF (chainL (N - 1)) N (1 : Nat) = false ∧
    checkG (chainL (N - 1) ++ [((N : Int), 1)]) = 0 ∧ orderE (chainL (N - 1) ++ [((N : Int), 1)]) = 8 ∧ ringF (chainL (N - 1) ++ [((N : Int), 1)]) = some (upL N) := by
  obtain ⟨j, hj⟩ : ∃ j : Fin 5, N = j.val + 2 := ⟨⟨N - 2, by omega⟩, by simp; omega⟩
  obtain ⟨g1, g2, g3, g4, g5, g6, g7⟩ := chain_dec j
  subst hj
  have e : j.val + 2 - 1 = j.val + 1 := by omega
  rw [e]
  refine ⟨g1, ⟨?_, ?_⟩, g3, g4, g5, ?_, g7⟩
  · unfold orderE; rw [if_neg (fun h => h g1), topF_eq, g2]
  · unfold orderL; rw [if_neg (fun h => h g1), topF_eq, g2]; rfl
  · unfold orderE; rw [if_neg (fun h => h g5), topF_eq, g6]

/-! ### The walk. -/
set_option maxRecDepth 100000 in
set_option maxHeartbeats 8000000 in
theorem walk (n : Int) (w : World) (hE : Et w) :
    Calls Tryd.prog 5 #[.int .i64 n] w fun e w' => e = .returned (.bool true) ∧ Below w.heap.size w w' := by
  have hz0 := hE.pos
  have HE := hide hE
  clear hE
  by_cases hn0 : n < 2
  · go_enter Tryd.func5, Tryd.ntmps5
    go_wp2
    go_ret
    exact ⟨rfl, Below.refl _ _⟩
  by_cases hn1 : 6 < n
  · go_enter Tryd.func5, Tryd.ntmps5
    go_wp2
    go_ret
    exact ⟨rfl, Below.refl _ _⟩
  obtain ⟨N, rfl⟩ : ∃ N : Nat, n = N := ⟨n.toNat, by omega⟩
  have h2N : 2 ≤ N := by omega
  have hN6 : N ≤ 6 := by omega
  have HF := Lib.hid (chain_facts N h2N hN6)
  go_enter Tryd.func5, Tryd.ntmps5
  go_wp2
  go_loopw [3, 4] (fun s3 s4 wr => ∃ k : Nat, k + 1 ≤ N ∧ s4 = .int .i64 (k + 1 : Nat) ∧ wr.ownsRow w.heap.size 29 2 s3 k (dcells (chainL k)) ∧ Below w.heap.size w wr) (fun _ s4 _ => N - (intOf s4).toNat)
  case atStart => exact ⟨0, by omega, rfl, World.ownsRow_nil _ _ _ _, Below.refl _ _⟩
  case round =>
    obtain ⟨k, hk, rfl, ho3, hbw⟩ := hrel
    obtain ⟨A3, c3, rfl⟩ := own_slice ho3
    have hz := hbw.size
    by_cases hlt : k + 1 < N
    · have HS := Lib.hid (chainL_succ k)
      go_wp2_with (at_builtin; (refine wpList_app rfl (.tmp 27) (.tmp 32) _ rfl w.heap.size slt_edge (n := k) (xs := dcells (chainL k)) (m := 1) (news := dcells [(((k : Int) + 1), ((k : Int) + 1 + 1))]) rfl (own_alloc ho3 _) rfl (rd_new' _ _ (dcells [(((k : Int) + 1), ((k : Int) + 1 + 1))]) (by simp) rfl) (oneD _) (by omega) (by simp; omega) ?_; intro v5 w5 hown5 hg5 hb5 hat5 hne5))
      rw [← dcells_append, ← HS.out] at hown5
      have hbw5 := (hbw.alloc hz (.cells (dcells [(((k : Int) + 1), ((k : Int) + 1 + 1))]).toArray 29)).trans hb5
      go_roundw
      case rel => exact ⟨k + 1, by omega, by go_num, hown5, hbw5⟩
      case measure => simp [intOf]; omega
    · have hkN : N - 1 = k := by omega
      have HKN := Lib.hid hkN
      rw [HKN.out] at HF
      obtain ⟨f1, f2, f3, f4, f5, f6, f7⟩ := HF.out
      have hd3 := rd_own ho3
      have CO := hide (gorder_any A3 k c3 (chainL k) wr hd3 (by omega))
      rw [f2.1, f2.2, errV_zero] at CO
      have HF5 := Lib.hid (And.intro f5 (And.intro f6 f7))
      have CR1 := hide (fun w1 hd => reach_ok A3 k c3 (chainL k) 1 N w1 hd f1 (by omega) (by omega) (by omega) (by omega))
      have CR2 := hide (fun w1 hd => reach_ok A3 k c3 (chainL k) N 1 w1 hd f1 (by omega) (by omega) (by omega) (by omega))
      rw [f3] at CR1
      rw [f4] at CR2
      clear f1 f2 f3 f4 f5 f6 f7 HF hkN
      go_wp2_with fail
      refine (unhide CO).mono ?_
      rintro e w2 ⟨v2, k2, rfl, ho2, hb2⟩
      have hk2 : k2 = N := by rw [← own_ilen ho2]; simp [upL]
      subst hk2
      obtain ⟨A2, c2, rfl⟩ := own_slice ho2
      have hbw2 := hbw.trans (hb2.mono hz)
      have hd2 := (hd3.below hb2).more hb2.size
      have ho32 := own_below ho3 hb2 (Nat.le_refl _)
      have hdo := rd_own ho2
      clear CO hb2 ho2 hd3 ho3 hbw hz
      go_wp2
      go_loop [7] (fun s7 => ∃ i : Nat, i ≤ k2 ∧ s7 = .int .i64 i) (fun s7 => k2 - (intOf s7).toNat)
      case atStart => exact ⟨0, Nat.zero_le _, rfl⟩
      case round =>
        obtain ⟨i, hi, rfl⟩ := hrel
        by_cases hi2 : i < k2
        · obtain ⟨b, off, x, he, hb, hx, c0⟩ := hdo.int (k := i) hi2
          cases he
          rw [upL_get hi2] at hx
          cases hx
          have tb : (((i : Int) + 1) != ((i : Int) + 1)) = false := by simp
          go_wp2
          go_round
          case rel => exact ⟨i + 1, by omega, by go_num⟩
          case measure => simp [intOf]; omega
        · clear hdo
          have CR1' := hide (unhide CR1 _ hd2)
          rw [show ((1 : Nat) : Int) = 1 from rfl] at CR1' CR2
          go_wp2_with fail
          refine (unhide CR1').mono ?_
          rintro e w3 ⟨rfl, hb3⟩
          have hbw3 := hbw2.trans (hb3.mono hbw2.size)
          have hd3 := (hd2.below hb3).more hb3.size
          have ho33 := own_below ho32 hb3 (Nat.le_refl _)
          have CR2' := hide (unhide CR2 _ hd3)
          clear CR1' CR1 CR2 hd2 ho32 hb3 hbw2
          go_wp2_with fail
          refine (unhide CR2').mono ?_
          rintro e w4 ⟨rfl, hb4⟩
          have hbw4 := hbw3.trans (hb4.mono hbw3.size)
          have ho34 := own_below ho33 hb4 (Nat.le_refl _)
          have hz4 := hbw4.size
          clear CR2' hd3 ho33 hb4 hbw3
          go_wp2_with (at_builtin; (refine wpList_app rfl (.tmp 71) (.tmp 74) _ rfl w.heap.size slt_edge (n := k) (xs := dcells (chainL k)) (m := 1) (news := dcells [((k2 : Int), 1)]) rfl (own_alloc ho34 _) rfl (rd_new' _ _ (dcells [((k2 : Int), 1)]) (by simp) rfl) (oneD _) (by omega) (by simp; omega) ?_; intro v5 w5 hown5 hg5 hb5 hat5 hne5))
          rw [← dcells_append] at hown5
          obtain ⟨A5, c5, rfl⟩ := own_slice hown5
          have hbw5 := (hbw4.alloc hz4 (.cells (dcells [((k2 : Int), 1)]).toArray 29)).trans hb5
          have hd5 := rd_own hown5
          have CO := hide (gorder_any A5 (k + 1) c5 (chainL k ++ [((k2 : Int), 1)]) w5 hd5 (by omega))
          rw [HF5.out.2.1, show errV 8 = .iface 72 (.int .i64 8) from rfl] at CO
          have CG := hide (fun w1 hd => ring_ok A5 (k + 1) c5 (chainL k ++ [((k2 : Int), 1)]) w1 hd (by omega) HF5.out.1)
          clear hb5 hg5 hat5 hne5 hown5 ho34 hbw4
          refine (unhide CO).mono ?_
          rintro e w6 ⟨v6, k6, rfl, ho6, hb6⟩
          obtain ⟨A6, c6, rfl⟩ := own_slice ho6
          have hbw6 := hbw5.trans (hb6.mono hbw5.size)
          have hd6 := (hd5.below hb6).more hb6.size
          have CG6 := hide (unhide CG _ hd6)
          clear CO CG hb6 hd5 ho6
          go_wp2_with fail
          refine (unhide CG6).mono ?_
          rintro e w7 ⟨hb7, hcs⟩
          have hbw7 := hbw6.trans (hb7.mono hbw6.size)
          rw [HF5.out.2.2] at hcs
          rcases hcs with ⟨h, _⟩ | ⟨L, a7, n7, c7, hL, rfl, hd7⟩
          · cases h
          cases hL
          have hn7 : n7 = k2 := by rw [← hd7.ilen]; simp [upL]
          subst hn7
          have ER := hide (error_same 8 w7 ((unhide HE).below hbw7 hz0))
          rw [show errV 8 = .iface 72 (.int .i64 8) from rfl] at ER
          clear CG6 hb7 hd6
          go_wp2_with fail
          refine (unhide ER).mono ?_
          rintro e w8 ⟨rfl, hb8⟩
          have hbw8 := hbw7.trans (hb8.mono hbw7.size)
          have hd8 := (hd7.below hb8).more hb8.size
          obtain ⟨b, off, x, he, hb, hx, c0⟩ := hd8.int (k := 0) (by omega)
          cases he
          rw [upL_get (by omega)] at hx
          cases hx
          rw [Nat.add_zero] at c0
          clear hd7 hd8 hb8 ER
          go_wp2
          go_ret
          exact ⟨rfl, hbw8⟩


/-! ### The row. -/
set_option maxRecDepth 100000 in
theorem lifted (os : Os) (started : os.Started) (H : Type) (enc : TypeId × Value → H) :
    ReturnsInHanded {} Tryd.checked os 5 .any (fun w args => (Rows.graphChainSpec.pre enc Tryd.prog Tryd.f5 [] false w args ∧ laidMetH Tryd.prog dLaid w) ∧ sizedMet enc Tryd.prog Tryd.f5 (OpenSpec.ofChange Rows.graphChainSpec) false w args) (Rows.graphChainSpec.post enc Tryd.prog Tryd.f5 false true false false) := by
  refine returnsInHanded_of_change_and (C := Tryd.checked) (X := fun w _ => laidMetH Tryd.prog dLaid w) (fun _ _ _ hh h => h.of_heap hh) dOwn started (by kernel_rfl) Tryd.func5
    (ChangeSpec.witness_at (enc := enc) (C := Tryd.checked) (os := os) (X := fun w _ => laidMetH Tryd.prog dLaid w) false (laidWorld os) #[.int .i64 0] 8 rfl (by kernel_rfl) (by kernel_rfl) (by kernel_rfl) (by kernel_rfl) (by kernel_rfl) (laidWorld_met os _)) ?_
  intro W base args ds gs before hval0 hW hcnd hsz0 hL _
  have hval : ∀ (j : Nat) t v, Tryd.f5.params[j]? = some t → args[j]? = some v → Value.okWide Tryd.prog W .any base t v := hval0
  have hW' := hW
  obtain ⟨p, q, hA0, hV, rfl, hfz, hnd⟩ := hW
  have hA : DataW.TrodAll enc Tryd.prog W 0 (fun _ => true) true Tryd.f5.params.toList args.toList ds p := hA0
  rw [Tryd.params5] at hA hval
  obtain ⟨v0, vs0, d0, ds0, p0, q0, hargs, rfl, rfl, h0, r0⟩ := trodAll_cons hA
  obtain ⟨rfl, rfl, rfl⟩ := trodAll_nil r0
  obtain rfl : args = #[v0] := by cases args; simp_all
  obtain ⟨rfl, rfl⟩ := trodVars_none hV
  simp only [List.append_nil] at hW'
  obtain ⟨a0, rfl, rfl, rfl, w0⟩ := open_int Tryd.underlying3 (hval 0 3 v0 rfl rfl) h0
  clear hA0 hval0
  refine (walk a0 W (et_of_laid hL) ).mono fun e W' ⟨he, hg⟩ => ?_
  subst he
  exact ⟨_, rfl, post_slices (pa := _) (pv := []) hW' hg (by simp) (fun _ _ _ => (trodAll_cons_mk (shut_bool Tryd.underlying4 _) trodAll_mk0)) (trodAll_cons_mk (shut_int Tryd.underlying3 w0) trodAll_mk0) rfl⟩

theorem over : Rows.GraphChainSaid :=
  OpenClaim.holds_of_wide 5 Tryd.f5 rfl rfl rfl rfl rfl rfl rfl ⟨rfl, rfl, rfl, rfl, rfl⟩ rfl rfl rfl rfl rfl (by kernel_rfl) Tryd.func5 (by kernel_rfl)
    (of_decide_eq_true (by kernel_rfl)) (by unfold Func.isWrapper; first | (rw [if_pos (by decide +kernel)]; kernel_rfl) | (rw [if_neg (by decide +kernel)]; exact ⟨rfl, rfl⟩))
    (fun os started H enc _ => lifted os started H enc)

/-- The statement: the tied card. -/
theorem proved : Rows.GraphChainCardSaid :=
  Claim7.holds_tied_plain_at .later [] [.handle] true _ true
    over (fun _ h => by cases h) (by kernel_rfl) (fun _ h => by cases h) graphChain_row_tie rfl ⟨rfl, rfl⟩ (by kernel_rfl) rfl
    (fun f fn hf hfn => by
      obtain rfl : f = 5 := Option.some.inj ((show Tryd.prog.funcNamed "locklane/lanelaw4.GraphChain" = some 5 by kernel_rfl).symm.trans hf) |>.symm
      obtain rfl : fn = Tryd.f5 := (Option.some.inj (Tryd.func5.symm.trans hfn)).symm
      exact ⟨by kernel_rfl, fun j t ht => by
        rw [Tryd.params5] at ht
        have hm : t ∈ [3] := by have := Array.mem_of_getElem? ht; simpa using this
        have hall : ([3].all fun u => !Tryd.prog.wantsStandIn u) = true := by kernel_rfl
        exact (show Tryd.prog.wantsStandIn t = false by simpa using List.all_eq_true.1 hall t hm)⟩)
    (by kernel_rfl)
#print axioms proved
end Go.Proofs.YtanjmfiijojnbaaDoor.graphChain
