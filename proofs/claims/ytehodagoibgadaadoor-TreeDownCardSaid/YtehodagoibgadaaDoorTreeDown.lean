
/-
  PROVED: lanelaw4.TreeDown returns true, for every n: who goes down a tree of one branch, hand over hand, is legal; a second one may follow, and comes behind it. The variable errors.errorType starts as the program's text lays it (the card's tie); no condition beyond the form's own reach.
-/
import Derived.Test.YtehodagoibgadaaDoorTreeE
import Derived.Test.YtehodagoibgadaaDoorTreeR
import Derived.Test.YtehodagoibgadaaDoorE1

namespace Go.Proofs.YtehodagoibgadaaDoor.treeDown
open Go.ChangeShapes Go.WideShapes Go.ChangeAt Go.RowKit Go.Proofs.YtehodagoibgadaaDoor

theorem slt_grip : SlT Tryd.prog 23 40 3 24 := slt_of (z := .agg #[.int .i64 0, .int .i64 0, .bool false]) Tryd.underlying23 (by kernel_rfl) rfl (by decide) (by decide)
theorem own_capT {w : World} {base : Nat} {e : TypeId} {size : Nat} {A : Option Addr} {n c : Nat} {xs : List Value} (h : w.ownsRow base e size (.slice A n c) n xs) : n ≤ c := by
  rcases h.2 with ⟨hv, h0⟩ | ⟨_, _, _, hv, _, _, hnc, _⟩
  · omega
  · injection hv with _ _ hc; omega
def partT (t : Int) (k : Nat) : List GOp := (List.range k).flatMap fun i : Nat => ⟨t, (i : Int) + 1, true⟩ :: (if 0 < i then [⟨t, (i : Int), false⟩] else [])
def downs (n : Nat) : Nat → List GOp
  | 0 => []
  | 1 => downT 1 n
  | _ => downT 1 n ++ downT 2 n
theorem branchL_succ (k : Nat) : cellsI (branchL (k + 1)) = cellsI (branchL k) ++ cellsI [(k : Int)] := by simp [branchL, cellsI, List.range_succ]
theorem partT_succ (t : Int) (k : Nat) : partT t (k + 1) = partT t k ++ (⟨t, (k : Int) + 1, true⟩ :: (if 0 < k then [⟨t, (k : Int), false⟩] else [])) := by simp [partT, List.range_succ]
theorem downs_succ {n t : Nat} (ht : t < 2) : downs n (t + 1) = downs n t ++ partT ((t : Int) + 1) n ++ [⟨(t : Int) + 1, (n : Int), false⟩] := by
  have : t = 0 ∨ t = 1 := by omega
  rcases this with rfl | rfl
  · simp [downs, downT, partT]
  · simp [downs, downT, partT]
theorem partT_len (t : Int) : ∀ k : Nat, (partT t k).length ≤ 2 * k
  | 0 => by simp [partT]
  | k + 1 => by
    rw [partT_succ, List.length_append]
    have := partT_len t k
    split <;> simp <;> omega
theorem downs_len (n : Nat) : ∀ t : Nat, t ≤ 2 → (downs n t).length ≤ t * (2 * n + 1)
  | 0, _ => by simp [downs]
  | t + 1, h => by
    rw [downs_succ (by omega), List.length_append, List.length_append]
    have h1 := downs_len n t (by omega)
    have h2 := partT_len ((t : Int) + 1) n
    simp only [List.length_singleton]
    rw [Nat.succ_mul]
    omega

set_option maxRecDepth 100000 in
set_option maxHeartbeats 4000000 in
theorem down_in (N : Nat) (w : World) (h1 : 1 ≤ N) (h6 : N ≤ 6) :
    Calls Tryd.prog 4 #[.int .i64 N] w fun e w' => e = .returned (.bool true) ∧ Below w.heap.size w w' := by
  have HF := Lib.hid (down_facts h1 h6)
  have n1 : (1 : Int) ≤ (N : Int) := by omega
  have n6 : (N : Int) ≤ 6 := by omega
  go_enter Tryd.func4, Tryd.ntmps4
  go_wp2
  go_loopw [5, 6] (fun s5 i wr => ∃ k : Nat, k ≤ N ∧ i = .int .i64 k ∧ wr.ownsRow w.heap.size 3 1 s5 k (cellsI (branchL k)) ∧ Below w.heap.size w wr) (fun _ i _ => N - (intOf i).toNat)
  case atStart => exact ⟨0, Nat.zero_le _, rfl, World.ownsRow_nil _ _ _ _, Below.refl _ _⟩
  case round =>
    obtain ⟨k, hk, rfl, ho, hbw⟩ := hrel
    obtain ⟨A1, c1, rfl⟩ := own_slice ho
    have hsz := hbw.size
    by_cases hlt : k < N
    · go_wp2_with (at_builtin; (refine wpList_app rfl (.tmp 31) (.tmp 33) _ rfl w.heap.size slt_ints (n := k) (xs := cellsI (branchL k)) (m := 1) (news := cellsI [(k : Int)]) rfl (own_alloc ho _) rfl (rd_new' _ _ (cellsI [(k : Int)]) (by simp) rfl) (oneI _) (by omega) (by simp; omega) ?_); intro v5 w5 hown5 hg5 hb5 hat5 hne5)
      have hbw5 : Below w.heap.size w w5 := (hbw.alloc hsz _).trans hb5
      rw [← branchL_succ] at hown5
      go_roundw
      case rel => exact ⟨k + 1, by omega, by go_num, hown5, hbw5⟩
      case measure => simp [intOf]; omega
    · have hkN : k = N := by omega
      subst hkN
      go_wp2
      go_loopw [7, 8, 9] (fun s7 s8 _ wr => ∃ t m : Nat, t ≤ 2 ∧ s8 = .int .i64 ((t : Int) + 1) ∧ wr.ownsRow w.heap.size 3 1 (.slice A1 k c1) k (cellsI (branchL k)) ∧ wr.ownsRow w.heap.size 40 3 s7 m (cellsG (downs k t)) ∧ Below w.heap.size w wr) (fun _ s8 _ _ => 3 - (intOf s8).toNat)
      case atStart => exact ⟨0, 0, by omega, rfl, ho, World.ownsRow_nil _ _ _ _, hbw⟩
      case round =>
        clear ho hbw hsz
        obtain ⟨t, m, ht, rfl, ho, hol, hbw⟩ := hrel
        obtain ⟨A7, c7, rfl⟩ := own_slice hol
        by_cases hlt2 : t < 2
        · have HDS := Lib.hid (downs_succ (n := k) hlt2)
          have hbd : (downs k t).length ≤ 13 := by
            have h1 := downs_len k t ht
            have h2 : t * (2 * k + 1) ≤ 1 * (2 * k + 1) := Nat.mul_le_mul_right _ (by omega)
            omega
          have HBD := Lib.hid hbd
          have tq : decide ((t : Int) + 1 ≤ 2) = true := decide_eq_true (by omega)
          clear hbd
          go_wp2
          go_loopw [7, 9] (fun s7 s9 wr => ∃ i m : Nat, i ≤ k ∧ s9 = .int .i64 ((i : Int) + 1) ∧ wr.ownsRow w.heap.size 3 1 (.slice A1 k c1) k (cellsI (branchL k)) ∧ wr.ownsRow w.heap.size 40 3 s7 m (cellsG (downs k t ++ partT ((t : Int) + 1) i)) ∧ Below w.heap.size w wr) (fun _ s9 _ => k + 1 - (intOf s9).toNat)
          case atStart => exact ⟨0, m, Nat.zero_le _, rfl, ho, by simpa [partT] using hol, hbw⟩
          case round =>
            clear ho hol hbw
            obtain ⟨i, m, hi, rfl, ho, hol, hbw⟩ := hrel
            obtain ⟨A8, c8, rfl⟩ := own_slice hol
            have hm30 : m ≤ 30 := by
              have h1 := hol.1
              rw [cellsG_length, List.length_append] at h1
              have h2 := partT_len ((t : Int) + 1) i
              have h3 := HBD.out
              omega
            have hsz := hbw.size
            by_cases hlt3 : i < k
            · have HPS := Lib.hid (partT_succ ((t : Int) + 1) i)
              by_cases hi0 : i = 0
              · subst hi0
                go_wp2_with (at_builtin; (refine wpList_app rfl (.tmp 44) (.tmp 48) _ rfl w.heap.size slt_grip (n := m) (xs := cellsG (downs k t ++ partT ((t : Int) + 1) 0)) (m := 1) (news := cellsG [⟨(t : Int) + 1, 1, true⟩]) rfl (own_alloc hol _) rfl (rd_new' _ _ (cellsG [⟨(t : Int) + 1, 1, true⟩]) (by simp) rfl) (oneG _) (by omega) (by simp; omega) ?_); intro v5 w5 hown5 hg5 hb5 hat5 hne5)
                have hbw5 : Below w.heap.size w w5 := (hbw.alloc hsz _).trans hb5
                have ho5 := own_other (own_alloc ho _) (own_alloc hol _) (by decide) hg5
                have e5 : cellsG (downs k t ++ partT ((t : Int) + 1) 0) ++ cellsG [⟨(t : Int) + 1, 1, true⟩] = cellsG (downs k t ++ partT ((t : Int) + 1) (0 + 1)) := by rw [HPS.out, ← cellsG_append]; simp [partT]
                rw [e5] at hown5
                go_roundw
                case rel => exact ⟨0 + 1, m + 1, by omega, by go_num, ho5, hown5, hbw5⟩
                case measure => simp [intOf]; omega
              · have hi1 : 1 ≤ i := by omega
                have t1 : decide ((1 : Int) < (i : Int) + 1) = true := decide_eq_true (by omega)
                have t2 : (1 : Int) ≤ (i : Int) := by omega
                go_wp2_with (first
                  | (at_builtin; (refine wpList_app rfl (.tmp 44) (.tmp 48) _ rfl w.heap.size slt_grip (n := m) (xs := cellsG (downs k t ++ partT ((t : Int) + 1) i)) (m := 1) (news := cellsG [⟨(t : Int) + 1, (i : Int) + 1, true⟩]) rfl (own_alloc hol _) rfl (rd_new' _ _ (cellsG [⟨(t : Int) + 1, (i : Int) + 1, true⟩]) (by simp) rfl) (oneG _) (by omega) (by simp; omega) ?_); intro v5 w5 hown5 hg5 hb5 hat5 hne5; obtain ⟨A5, c5, rfl⟩ := own_slice hown5; have hz5 : w.heap.size ≤ w5.heap.size := ((hbw.alloc hsz _).trans hb5).size)
                  | (at_builtin; (refine wpList_app rfl (.tmp 52) (.tmp 57) _ rfl w.heap.size slt_grip (n := m + 1) (xs := cellsG (downs k t ++ partT ((t : Int) + 1) i) ++ cellsG [⟨(t : Int) + 1, (i : Int) + 1, true⟩]) (m := 1) (news := cellsG [⟨(t : Int) + 1, (i : Int), false⟩]) rfl (own_alloc hown5 _) rfl (rd_new' _ _ (cellsG [⟨(t : Int) + 1, (i : Int), false⟩]) (by simp) rfl) (oneG _) (by omega) (by simp; omega) ?_); intro v6 w6 hown6 hg6 hb6 hat6 hne6))
                have hbw5 : Below w.heap.size w w5 := (hbw.alloc hsz _).trans hb5
                have hbw6 : Below w.heap.size w w6 := (hbw5.alloc hz5 _).trans hb6
                have ho5 := own_other (own_alloc ho _) (own_alloc hol _) (by decide) hg5
                have ho6 := own_other (own_alloc ho5 _) (own_alloc hown5 _) (by decide) hg6
                have e5 : cellsG (downs k t ++ partT ((t : Int) + 1) i) ++ cellsG [⟨(t : Int) + 1, (i : Int) + 1, true⟩] ++ cellsG [⟨(t : Int) + 1, (i : Int), false⟩] = cellsG (downs k t ++ partT ((t : Int) + 1) (i + 1)) := by rw [HPS.out, ← cellsG_append, ← cellsG_append, if_pos (by omega)]; simp
                rw [e5] at hown6
                go_roundw
                case rel => exact ⟨i + 1, m + 1 + 1, by omega, by go_num, ho6, hown6, hbw6⟩
                case measure => simp [intOf]; omega
            · obtain rfl : i = k := by omega
              go_wp2_with (at_builtin; (refine wpList_app rfl (.tmp 59) (.tmp 63) _ rfl w.heap.size slt_grip (n := m) (xs := cellsG (downs i t ++ partT ((t : Int) + 1) i)) (m := 1) (news := cellsG [⟨(t : Int) + 1, (i : Int), false⟩]) rfl (own_alloc hol _) rfl (rd_new' _ _ (cellsG [⟨(t : Int) + 1, (i : Int), false⟩]) (by simp) rfl) (oneG _) (by omega) (by simp; omega) ?_); intro v5 w5 hown5 hg5 hb5 hat5 hne5)
              have hbw5 : Below w.heap.size w w5 := (hbw.alloc hsz _).trans hb5
              have ho5 := own_other (own_alloc ho _) (own_alloc hol _) (by decide) hg5
              have e5 : cellsG (downs i t ++ partT ((t : Int) + 1) i) ++ cellsG [⟨(t : Int) + 1, (i : Int), false⟩] = cellsG (downs i (t + 1)) := by rw [HDS.out, ← cellsG_append]
              rw [e5] at hown5
              go_roundw
              case rel => exact ⟨t + 1, m + 1, by omega, by go_num, ho5, hown5, hbw5⟩
              case measure => simp [intOf]; omega
        · obtain rfl : t = 2 := by omega
          have e2 : downs k 2 = downL k := rfl
          rw [e2] at hol
          have hml : m ≤ 30 := by
            have h1 := hol.1
            rw [cellsG_length, ← e2] at h1
            have h2 := downs_len k 2 (by omega)
            omega
          have hcl := own_capT hol
          have hcu := own_capT ho
          have CL := hide (legal_any A1 k c1 (branchL k) A7 m c7 (downL k) wr (rd_own ho) hcu (rd_own hol) (by omega))
          rw [HF.out.1] at CL
          simp only [show errV 0 = .nilIface from rfl] at CL
          have HO := hide ho
          have HOL := hide hol
          clear ho hol e2
          go_wp2_with fail
          refine (unhide CL).mono ?_
          rintro e w3 ⟨rfl, hb3⟩
          have hbw3 := hbw.trans (hb3.mono hbw.size)
          have CE := hide (tedges_any A1 k c1 (branchL k) A7 m c7 (downL k) w3 (((rd_own (unhide HO)).below hb3).more hb3.size) hcu (((rd_own (unhide HOL)).below hb3).more hb3.size) hcl (by omega) (by rw [HF.out.1]))
          rw [HF.out.2] at CE
          clear CL
          go_wp2_with fail
          refine (unhide CE).mono ?_
          rintro e w4 ⟨A4, m4, c4, rfl, h4, _, hb4⟩
          have hbw4 := hbw3.trans (hb4.mono hbw3.size)
          obtain rfl : m4 = 1 := by have := h4.dlen; simpa using this.symm
          obtain ⟨b2, off2, ⟨x, y⟩, he2, hbb2, hx2, d0, d1⟩ := h4.pr (k := 0) (by omega)
          cases he2
          obtain ⟨rfl, rfl⟩ : x = 1 ∧ y = 2 := by simpa using hx2.symm
          simp only [Nat.zero_mul, Nat.add_zero] at d0 d1
          clear h4 hx2 CE
          go_wp2
          go_ret
          exact ⟨rfl, hbw4⟩

set_option maxRecDepth 100000 in
theorem walk_out (n : Int) (w : World) (hE : Et w) (h : ¬ (1 ≤ n ∧ n ≤ 6)) :
    Calls Tryd.prog 4 #[.int .i64 n] w fun e w' => e = .returned (.bool true) ∧ Below w.heap.size w w' := by
  have CL := hide (legal_any none 0 0 [] none 0 0 [] w Rd.nil (Nat.le_refl _) Rd.nil (by omega))
  have HE := hide hE
  have hz := hE.pos
  rw [show legalF [] [] = (0, 1) from rfl] at CL
  simp only at CL
  rw [show errV 1 = .iface 44 (.int .i64 1) from rfl] at CL
  clear hE
  by_cases h1 : n < 1
  · go_enter Tryd.func4, Tryd.ntmps4
    go_wp2_with fail
    refine (unhide CL).mono ?_
    rintro e w3 ⟨rfl, hb3⟩
    have CR := hide (error_same 1 w3 ((unhide HE).below hb3 hz))
    rw [show errV 1 = .iface 44 (.int .i64 1) from rfl] at CR
    go_wp2_with fail
    refine (unhide CR).mono ?_
    rintro e w4 ⟨rfl, hb4⟩
    have hbw4 := hb3.trans (hb4.mono hb3.size)
    go_wp2
    go_ret
    exact ⟨rfl, hbw4⟩
  · have h2 : 6 < n := by omega
    go_enter Tryd.func4, Tryd.ntmps4
    go_wp2_with fail
    refine (unhide CL).mono ?_
    rintro e w3 ⟨rfl, hb3⟩
    have CR := hide (error_same 1 w3 ((unhide HE).below hb3 hz))
    rw [show errV 1 = .iface 44 (.int .i64 1) from rfl] at CR
    go_wp2_with fail
    refine (unhide CR).mono ?_
    rintro e w4 ⟨rfl, hb4⟩
    have hbw4 := hb3.trans (hb4.mono hb3.size)
    go_wp2
    go_ret
    exact ⟨rfl, hbw4⟩

theorem walk (n : Int) (w : World) (hE : Et w) :
    Calls Tryd.prog 4 #[.int .i64 n] w fun e w' => e = .returned (.bool true) ∧ Below w.heap.size w w' := by
  by_cases h : 1 ≤ n ∧ n ≤ 6
  · obtain ⟨N, rfl⟩ := Int.eq_ofNat_of_zero_le (show 0 ≤ n by omega)
    exact down_in N w (by omega) (by omega)
  · exact walk_out n w hE h


/-! ### The row. -/
set_option maxRecDepth 100000 in
theorem lifted (os : Os) (started : os.Started) (H : Type) (enc : TypeId × Value → H) :
    ReturnsInHanded {} Tryd.checked os 4 .any (fun w args => (Rows.treeDownSpec.pre enc Tryd.prog Tryd.f4 [] false w args ∧ laidMetH Tryd.prog dLaid w) ∧ sizedMet enc Tryd.prog Tryd.f4 (OpenSpec.ofChange Rows.treeDownSpec) false w args) (Rows.treeDownSpec.post enc Tryd.prog Tryd.f4 false true false false) := by
  refine returnsInHanded_of_change_and (C := Tryd.checked) (X := fun w _ => laidMetH Tryd.prog dLaid w) (fun _ _ _ hh h => h.of_heap hh) dOwn started (by kernel_rfl) Tryd.func4
    (ChangeSpec.witness_at (enc := enc) (C := Tryd.checked) (os := os) (X := fun w _ => laidMetH Tryd.prog dLaid w) false (laidWorld os) #[.int .i64 0] 8 rfl (by kernel_rfl) (by kernel_rfl) (by kernel_rfl) (by kernel_rfl) (by kernel_rfl) (laidWorld_met os _)) ?_
  intro W base args ds gs before hval0 hW hcnd hsz0 hL _
  have hval : ∀ (j : Nat) t v, Tryd.f4.params[j]? = some t → args[j]? = some v → Value.okWide Tryd.prog W .any base t v := hval0
  have hW' := hW
  obtain ⟨p, q, hA0, hV, rfl, hfz, hnd⟩ := hW
  have hA : DataW.TrodAll enc Tryd.prog W 0 (fun _ => true) true Tryd.f4.params.toList args.toList ds p := hA0
  rw [Tryd.params4] at hA hval
  obtain ⟨v0, vs0, d0, ds0, p0, q0, hargs, rfl, rfl, h0, r0⟩ := trodAll_cons hA
  obtain ⟨rfl, rfl, rfl⟩ := trodAll_nil r0
  obtain rfl : args = #[v0] := by cases args; simp_all
  obtain ⟨rfl, rfl⟩ := trodVars_none hV
  simp only [List.append_nil] at hW'
  obtain ⟨a0, rfl, rfl, rfl, w0⟩ := open_int Tryd.underlying3 (hval 0 3 v0 rfl rfl) h0
  clear hA0 hval0
  refine (walk a0 W (et_of_laid hL) ).mono fun e W' ⟨he, hg⟩ => ?_
  subst he
  exact ⟨_, rfl, post_slices (pa := _) (pv := []) hW' hg (by simp) (fun _ _ _ => (trodAll_cons_mk (shut_bool Tryd.underlying4 _) trodAll_mk0)) (trodAll_cons_mk (shut_int Tryd.underlying3 w0) trodAll_mk0) rfl⟩

theorem over : Rows.TreeDownSaid :=
  OpenClaim.holds_of_wide 4 Tryd.f4 rfl rfl rfl rfl rfl rfl rfl ⟨rfl, rfl, rfl, rfl, rfl⟩ rfl rfl rfl rfl rfl (by kernel_rfl) Tryd.func4 (by kernel_rfl)
    (of_decide_eq_true (by kernel_rfl)) (by unfold Func.isWrapper; first | (rw [if_pos (by decide +kernel)]; kernel_rfl) | (rw [if_neg (by decide +kernel)]; exact ⟨rfl, rfl⟩))
    (fun os started H enc _ => lifted os started H enc)

/-- The statement: the tied card. -/
theorem proved : Rows.TreeDownCardSaid :=
  Claim7.holds_tied_plain_at .later [] [.handle] true _ true
    over (fun _ h => by cases h) (by kernel_rfl) (fun _ h => by cases h) treeDown_row_tie rfl ⟨rfl, rfl⟩ (by kernel_rfl) rfl
    (fun f fn hf hfn => by
      obtain rfl : f = 4 := Option.some.inj ((show Tryd.prog.funcNamed "locklane/lanelaw4.TreeDown" = some 4 by kernel_rfl).symm.trans hf) |>.symm
      obtain rfl : fn = Tryd.f4 := (Option.some.inj (Tryd.func4.symm.trans hfn)).symm
      exact ⟨by kernel_rfl, fun j t ht => by
        rw [Tryd.params4] at ht
        have hm : t ∈ [3] := by have := Array.mem_of_getElem? ht; simpa using this
        have hall : ([3].all fun u => !Tryd.prog.wantsStandIn u) = true := by kernel_rfl
        exact (show Tryd.prog.wantsStandIn t = false by simpa using List.all_eq_true.1 hall t hm)⟩)
    (by kernel_rfl)
#print axioms proved
end Go.Proofs.YtehodagoibgadaaDoor.treeDown
