
/-
  PROVED: lanelaw4.VersionsRising returns true, for all its arguments: by rising numbers, one behind the other, all are done, and each saw the one ahead. No condition.
-/
import Derived.Test.YtigmgeaimcglhaaVV1
import Derived.Test.YtigmgeaimcglhaaValidAB
import Derived.Test.YtigmgeaimcglhaaValidY
import Derived.Test.YtigmgeaimcglhaaPieces
import Derived.Test.YtigmgeaimcglhaaN1
import Derived.Test.YtigmgeaimcglhaaOpen

namespace Go.Proofs.Ytigmgeaimcglhaa.versionsRising
open Go.ChangeShapes Go.WideShapes Go.ChangeAt Go.RowKit Go.Proofs.Ytigmgeaimcglhaa

def upV (n : Nat) : List Int := (List.range n).map fun k : Nat => (k : Int) + 1
def seV (n : Nat) (i : Int) : List HOp := (List.range n).map fun k : Nat => (⟨(k : Int) + 1, i, k⟩ : HOp)
theorem upV_succ (j : Nat) : cellsI (upV (j + 1)) = cellsI (upV j) ++ [.int .i64 ((j : Int) + 1)] := by simp [upV, cellsI, List.range_succ]
theorem rise_dec : ∀ n i : Fin 6, (checkF (piecesH (i.val + 1 : Nat) (i.val + 1 : Nat) (upV (n.val + 1)))).2 = 0 ∧ orderF (upV (n.val + 1)) = upV (n.val + 1) ∧ (upV (n.val + 1)).Pairwise (· < ·) := by decide +kernel
theorem facts {N : Nat} (h1 : 1 ≤ N) (h6 : N ≤ 6) {j : Nat} (hj : j < 6) : okH (piecesH ((j : Int) + 1) ((j : Int) + 1) (orderF (upV N))) ∧ ∀ ts, ByNum (playV verR (piecesH ((j : Int) + 1) ((j : Int) + 1) (orderF (upV N)))) ts →
    ts = upV N ∧ seenOf { playV verR (piecesH ((j : Int) + 1) ((j : Int) + 1) (orderF (upV N))) with dn := ts } = seV N ((j : Int) + 1) ∧ (lastOf (ts.map (dgd (playV verR (piecesH ((j : Int) + 1) ((j : Int) + 1) (orderF (upV N)))))))[j]? = some (N : Int) := by
  obtain ⟨d1, d2, d3⟩ := rise_dec ⟨N - 1, by omega⟩ ⟨j, hj⟩
  have e : N - 1 + 1 = N := by omega
  simp only [e] at d1 d2 d3
  rw [show ((j + 1 : Nat) : Int) = (j : Int) + 1 by omega] at d1
  rw [d2]
  refine ⟨d1, fun ts H => ?_⟩
  have hN : (N : Int) ∈ ([1, 2, 3, 4, 5, 6] : List Int) := by simp only [List.mem_cons, List.not_mem_nil, or_false]; omega
  have hJ : (j : Int) + 1 ∈ ([1, 2, 3, 4, 5, 6] : List Int) := by simp only [List.mem_cons, List.not_mem_nil, or_false]; omega
  obtain ⟨r1, r2, r3, r4⟩ := ver_rising _ hN _ hJ
  have er : risV N ((j : Int) + 1) = playV verR (piecesH ((j : Int) + 1) ((j : Int) + 1) (upV N)) := rfl
  rw [er] at r1 r2 r3 r4
  have hI := ver_inv (l := piecesH ((j : Int) + 1) ((j : Int) + 1) (upV N)) d1
  generalize playV verR (piecesH ((j : Int) + 1) ((j : Int) + 1) (upV N)) = s at *
  have r1' : s.dn = upV N := r1
  have hts : ts = s.dn := pw_ext (r := (· < ·)) (fun a => Int.lt_irrefl a) (fun a b h h' => by omega) (H.lt hI.dnN) (by rw [r1']; exact d3) fun x => H.perm.mem_iff
  subst hts
  refine ⟨r1', r3, ?_⟩
  have e4 : (lastOf (s.dn.map (dgd s))).getD (((j : Int) + 1).toNat - 1) 0 = N := r4
  rw [show ((j : Int) + 1).toNat - 1 = j by omega, List.getD_eq_getElem?_getD] at e4
  have hl := lastOf_len (s.dn.map (dgd s))
  rw [List.getElem?_eq_getElem (by rw [hl]; omega)] at e4 ⊢
  simpa using e4

set_option maxRecDepth 100000 in
set_option maxHeartbeats 4000000 in
theorem rising_in (N j : Nat) (w : World) (h1 : 1 ≤ N) (h6 : N ≤ 6) (hj : j < 6) :
    Calls Try.prog 9 #[.int .i64 N, .int .i64 ((j : Int) + 1)] w fun e w' => e = .returned (.bool true) ∧ Below w.heap.size w w' := by
  have K := Lib.hid (facts h1 h6 hj)
  have n1 : (1 : Int) ≤ (N : Int) := by omega
  have n6 : (N : Int) ≤ 6 := by omega
  have j1 : (1 : Int) ≤ (j : Int) + 1 := by omega
  have j6 : (j : Int) + 1 ≤ 6 := by omega
  go_enter Try.func9, Try.ntmps9
  go_wp2
  go_loopw [5, 6] (fun s5 i wr => ∃ k : Nat, k ≤ N ∧ i = .int .i64 ((k : Int) + 1) ∧ wr.ownsRow w.heap.size 3 1 s5 k (cellsI (upV k)) ∧ Below w.heap.size w wr) (fun _ i _ => N + 1 - (intOf i).toNat)
  case atStart => exact ⟨0, Nat.zero_le _, rfl, World.ownsRow_nil _ _ _ _, Below.refl _ _⟩
  case round =>
    obtain ⟨k, hk, rfl, ho, hbw⟩ := hrel
    obtain ⟨A1, c1, rfl⟩ := own_slice ho
    have hsz := hbw.size
    by_cases hlt : k < N
    · go_wp2_with (at_builtin; (refine wpList_app rfl (.tmp 31) (.tmp 33) _ rfl w.heap.size slt_int (n := k) (xs := cellsI (upV k)) (m := 1) (news := [.int .i64 ((k : Int) + 1)]) rfl (own_alloc ho _) rfl (rd_new' _ _ [.int .i64 ((k : Int) + 1)] (by simp) rfl) (one1 (x := .int .i64 ((k : Int) + 1)) rfl) (by omega) (by simp; omega) ?_; intro v5 w5 hown5 hg5 hb5 hat5 hne5))
      have hbw5 : Below w.heap.size w w5 := (hbw.alloc hsz _).trans hb5
      rw [← upV_succ] at hown5
      go_roundw
      case rel => exact ⟨k + 1, by omega, by go_num, hown5, hbw5⟩
      case measure => simp [intOf]; omega
    · have hkN : k = N := by omega
      subst hkN
      have HC1 := hide (pieces_any A1 k c1 (upV k) ((j : Int) + 1) ((j : Int) + 1) wr (rd_own ho) (by omega))
      clear ho
      go_wp2_with fail
      refine (unhide HC1).mono ?_
      rintro e w2 ⟨v1, v2, rfl, hp1, hp2, hb2⟩
      obtain ⟨A11, c11, rfl⟩ := own_slice hp1
      obtain ⟨A12, c12, rfl⟩ := own_slice hp2
      have hbw2 := hbw.trans (hb2.mono hsz)
      have HCV := hide (ver_run A11 _ c11 _ w2 (rd_own hp1) (by have h1 := (rd_own hp1).hlen; have h2 := okH_len K.out.1; omega) K.out.1)
      clear hp2 HC1 hb2
      go_wp2_with fail
      refine (unhide HCV).mono ?_
      rintro e w3 ⟨ts, HBN, A3, c3, A4, c4, b3, n3, n4, rfl, r1, r2, r3, hb3, hcap⟩
      obtain ⟨f1, f2, f3⟩ := K.out.2 ts HBN
      rw [f2] at r2
      subst f1
      obtain rfl : n3 = k := by have := r1.ilen; simp [upV] at this; omega
      obtain rfl : n4 = n3 := by have := r2.hlen; simp [seV] at this; omega
      generalize lastOf ((upV n4).map (dgd (playV verR (piecesH ((j : Int) + 1) ((j : Int) + 1) (orderF (upV n4)))))) = la at *
      have hbw3 := hbw2.trans (hb3.mono hbw2.size)
      have hbw4 := hbw3.alloc hbw3.size (.cells #[.slice A3 n4 c3, .slice A4 n4 c4, .slice (some ⟨b3, 0, none⟩) 6 6] 28)
      have hB4 := Blk.new w3 28 [.slice A3 n4 c3, .slice A4 n4 c4, .slice (some ⟨b3, 0, none⟩) 6 6]
      obtain ⟨b6, off6, x6, he6, hb6, hx6, d6⟩ := (r3.alloc (Nat.le_refl _) (.cells #[.slice A3 n4 c3, .slice A4 n4 c4, .slice (some ⟨b3, 0, none⟩) 6 6] 28)).int (k := j) hj
      cases he6
      obtain rfl : (n4 : Int) = x6 := by rw [f3] at hx6; exact Option.some.inj hx6
      have z0 := hB4.cellS (i := 0) (v := .slice A3 n4 c3) rfl
      have z1 := hB4.cellS (i := 1) (v := .slice A4 n4 c4) rfl
      have z2 := hB4.cellS (i := 2) (v := .slice (some ⟨b3, 0, none⟩) 6 6) rfl
      have R1 := hide (r1.alloc (Nat.le_refl _) (.cells #[.slice A3 n4 c3, .slice A4 n4 c4, .slice (some ⟨b3, 0, none⟩) 6 6] 28))
      have R2 := hide (r2.alloc (Nat.le_refl _) (.cells #[.slice A3 n4 c3, .slice A4 n4 c4, .slice (some ⟨b3, 0, none⟩) 6 6] 28))
      clear r1 r2 r3 hx6 f3 HBN HCV hp1 f2 hB4 hb3
      rw [Nat.zero_add] at d6
      have t1 : ((n4 : Int) != (n4 : Int)) = false := by simp
      have w1 : IntKind.i64.wrap ((j : Int) + 1 - 1) = (j : Int) := by rw [show (j : Int) + 1 - 1 = (j : Int) by omega]; exact IntWalk.i64_in _ (by omega)
      go_wp2
      go_loop [11] (fun i => ∃ k : Nat, k ≤ n4 ∧ i = .int .i64 k) (fun i => n4 - (intOf i).toNat)
      case atStart => exact ⟨0, Nat.zero_le _, rfl⟩
      case round =>
        obtain ⟨q, hq, rfl⟩ := hrel
        by_cases hlt2 : q < n4
        · obtain ⟨b7, off7, x7, he7, _, hx7, d7⟩ := (unhide R1).int (k := q) hlt2
          cases he7
          obtain ⟨b8, off8, o8, he8, _, ho8, e0, e1, e2⟩ := (unhide R2).op (k := q) hlt2
          cases he8
          obtain rfl : (q : Int) + 1 = x7 := by
            unfold upV at hx7
            rw [List.getElem?_map, List.getElem?_range hlt2] at hx7
            exact Option.some.inj hx7
          obtain rfl : (⟨(q : Int) + 1, (j : Int) + 1, q⟩ : HOp) = o8 := by
            unfold seV at ho8
            rw [List.getElem?_map, List.getElem?_range hlt2] at ho8
            exact Option.some.inj ho8
          simp only at e0 e1 e2
          have t2 : ((q : Int) != (q : Int)) = false := by simp
          have t3 : ((q : Int) + 1 != (q : Int) + 1) = false := by simp
          clear hx7 ho8 e0 e1
          go_wp2
          go_round
          case rel => exact ⟨q + 1, by omega, by go_num⟩
          case measure => simp [intOf]; omega
        · go_wp2
          go_ret
          exact ⟨rfl, hbw4⟩

set_option maxRecDepth 100000 in
theorem walk_out (n a : Int) (w : World) (h : ¬ (1 ≤ n ∧ n ≤ 6 ∧ 1 ≤ a ∧ a ≤ 6)) :
    Calls Try.prog 9 #[.int .i64 n, .int .i64 a] w fun e w' => e = .returned (.bool true) ∧ Below w.heap.size w w' := by
  by_cases h1 : n < 1
  · go_enter Try.func9, Try.ntmps9
    go_wp2
    go_ret
    exact ⟨rfl, Below.refl _ _⟩
  by_cases h2 : 6 < n
  · go_enter Try.func9, Try.ntmps9
    go_wp2
    go_ret
    exact ⟨rfl, Below.refl _ _⟩
  by_cases h3 : a < 1
  · go_enter Try.func9, Try.ntmps9
    go_wp2
    go_ret
    exact ⟨rfl, Below.refl _ _⟩
  by_cases h4 : 6 < a
  · go_enter Try.func9, Try.ntmps9
    go_wp2
    go_ret
    exact ⟨rfl, Below.refl _ _⟩
  exact absurd ⟨by omega, by omega, by omega, by omega⟩ h

theorem walk (n a : Int) (w : World) :
    Calls Try.prog 9 #[.int .i64 n, .int .i64 a] w fun e w' => e = .returned (.bool true) ∧ Below w.heap.size w w' := by
  by_cases h : 1 ≤ n ∧ n ≤ 6 ∧ 1 ≤ a ∧ a ≤ 6
  · obtain ⟨N, rfl⟩ := Int.eq_ofNat_of_zero_le (show 0 ≤ n by omega)
    obtain ⟨j, hj⟩ := Int.eq_ofNat_of_zero_le (show 0 ≤ a - 1 by omega)
    obtain rfl : a = (j : Int) + 1 := by omega
    exact rising_in N j w (by omega) (by omega) (by omega)
  · exact walk_out n a w h

theorem own : ownKnob Try.prog.godebug = none := by kernel_rfl

/-! ### The row. -/
set_option maxRecDepth 100000 in
theorem lifted (os : Os) (started : os.Started) (H : Type) (enc : TypeId × Value → H) :
    ReturnsInHanded {} Try.checked os 9 .any (Rows.versionsRisingSpec.pre6 enc Try.prog Try.f9 Rows.versionsRisingRow.domain false) (Rows.versionsRisingSpec.post enc Try.prog Try.f9 false true false false) := by
  refine returnsInHanded_of_change_sized (C := Try.checked) own started (by kernel_rfl) Try.func9
    (ChangeSpec.witness6 (enc := enc) (C := Try.checked) false ⟨#[], #[.int .i64 0, .int .i64 0], []⟩ 8 (by kernel_rfl) (by kernel_rfl) (by kernel_rfl) (by kernel_rfl)) ?_
  intro W base args ds gs before hval0 hW hcnd hsz0 _
  have hval : ∀ (j : Nat) t v, Try.f9.params[j]? = some t → args[j]? = some v → Value.okWide Try.prog W .any base t v := hval0
  have hW' := hW
  obtain ⟨p, q, hA0, hV, rfl, hfz, hnd⟩ := hW
  have hA : DataW.TrodAll enc Try.prog W 0 (fun _ => true) true Try.f9.params.toList args.toList ds p := hA0
  rw [Try.params9] at hA hval
  obtain ⟨v0, vs0, d0, ds0, p0, q0, hargs, rfl, rfl, h0, r0⟩ := trodAll_cons hA
  obtain ⟨v1, vs1, d1, ds1, p1, q1, rfl, rfl, rfl, h1, r1⟩ := trodAll_cons r0
  obtain ⟨rfl, rfl, rfl⟩ := trodAll_nil r1
  obtain rfl : args = #[v0, v1] := by cases args; simp_all
  obtain ⟨rfl, rfl⟩ := trodVars_none hV
  simp only [List.append_nil] at hW'
  obtain ⟨a0, rfl, rfl, rfl, w0⟩ := open_int Try.underlying3 (hval 0 3 v0 rfl rfl) h0
  obtain ⟨a1, rfl, rfl, rfl, w1⟩ := open_int Try.underlying3 (hval 1 3 v1 rfl rfl) h1
  clear hA0 hval0
  refine (walk a0 a1 W ).mono fun e W' ⟨he, hg⟩ => ?_
  subst he
  exact ⟨_, rfl, post_slices (pa := _) (pv := []) hW' hg (by simp) (fun _ _ _ => (trodAll_cons_mk (shut_bool Try.underlying4 _) trodAll_mk0)) (trodAll_cons_mk (shut_int Try.underlying3 w0) (trodAll_cons_mk (shut_int Try.underlying3 w1) trodAll_mk0)) rfl⟩

theorem over : Rows.versionsRisingRow.holds Try.pinned (OpenSpec.ofChange Rows.versionsRisingSpec) :=
  OpenClaim.holds_of_wide 9 Try.f9 rfl rfl rfl rfl rfl rfl rfl ⟨rfl, rfl, rfl, rfl, rfl⟩ rfl rfl rfl rfl rfl (by kernel_rfl) Try.func9 (by kernel_rfl)
    (of_decide_eq_true (by kernel_rfl)) (by unfold Func.isWrapper; first | (rw [if_pos (by decide +kernel)]; kernel_rfl) | (rw [if_neg (by decide +kernel)]; exact ⟨rfl, rfl⟩))
    (fun os started H enc _ => lifted os started H enc)

/-- The statement. -/
theorem proved : Rows.VersionsRisingSaid :=
  over
#print axioms proved
end Go.Proofs.Ytigmgeaimcglhaa.versionsRising
