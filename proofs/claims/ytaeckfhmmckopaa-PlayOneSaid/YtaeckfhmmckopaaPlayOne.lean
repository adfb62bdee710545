/-
  PROVED: lanelaw4.PlayOne returns true, for every three integers: a deal that writes as its k-th op, and read nothing but noughts, writes seven times its number, and k. No condition.
-/
import Derived.Test.YtaeckfhmmckopaaPlay
import Derived.Test.YtaeckfhmmckopaaEnd
namespace Go.Proofs.Ytaeckfhmmckopaa.playOne
open Go.ChangeShapes Go.WideShapes Go.ChangeAt Go.RowKit Go.Proofs.Ytaeckfhmmckopaa

/-! ### The plain law. -/
theorem checkGo_reads (tx item : Int) (ht : 1 ≤ tx ∧ tx ≤ 6) (hi : 1 ≤ item ∧ item ≤ 6) (es : List Bool) (he : es[tx.toNat]? = some false) (m i : Nat) (rest : List HOp) :
    checkGo es i (List.replicate m ⟨tx, 1, item⟩ ++ rest) = checkGo es (i + m) rest := by
  have hR : rightB ⟨tx, 1, item⟩ = true := by simp [rightB, txB, endsB]; omega
  have hE : endsB ⟨tx, 1, item⟩ = false := by simp [endsB]
  have hs : es.set tx.toNat false = es := set_same he
  induction m generalizing i with
  | zero => simp
  | succ m ih =>
    rw [List.replicate_succ, List.cons_append, checkGo, hR, hE, hs, ih]
    simp [he]
    congr 1; omega
def hist (tx item : Int) (m : Nat) : List HOp := List.replicate m ⟨tx, 1, item⟩ ++ [⟨tx, 2, item⟩, ⟨tx, 3, 0⟩]
theorem hist_ok (tx item : Int) (ht : 1 ≤ tx ∧ tx ≤ 6) (hi : 1 ≤ item ∧ item ≤ 6) (m : Nat) (hm : m ≤ 29) : okH (hist tx item m) := by
  have hf : (List.replicate 7 false)[tx.toNat]? = some false := by rw [List.getElem?_replicate, if_pos (by omega)]
  unfold okH checkF
  rw [if_neg (by simp [hist]; omega), hist, checkGo_reads tx item ht hi _ hf]
  have h2 : rightB ⟨tx, 2, item⟩ = true := by simp [rightB, txB, endsB]; omega
  have h3 : rightB ⟨tx, 3, 0⟩ = true := by simp [rightB, txB, endsB]; omega
  have h4 : endsB ⟨tx, 2, item⟩ = false := by simp [endsB]
  have hs : (List.replicate 7 false).set tx.toNat false = List.replicate 7 false := set_same hf
  have hlen : tx.toNat < (List.replicate 7 false).length := by simp; omega
  generalize List.replicate 7 false = es at *
  simp [checkGo, h2, h3, h4, hs, hf]
theorem flagsGo_reads (tx item : Int) (es : List Bool) (he : es[tx.toNat]? = some false) (m : Nat) (rest : List HOp) :
    flagsGo es (List.replicate m ⟨tx, 1, item⟩ ++ rest) = flagsGo es rest := by
  have hs : es.set tx.toNat false = es := set_same he
  induction m with
  | zero => simp
  | succ m ih =>
    rw [List.replicate_succ, List.cons_append, flagsGo]
    simp [he, hs, ih]
theorem done_hist (tx item : Int) (ht : 1 ≤ tx ∧ tx ≤ 6) (m : Nat) : doneL (hist tx item m) = hist tx item m := by
  have hf : (List.replicate 7 false)[tx.toNat]? = some false := by rw [List.getElem?_replicate, if_pos (by omega)]
  have hs : (List.replicate 7 false).set tx.toNat false = List.replicate 7 false := set_same hf
  have hlen : tx.toNat < (List.replicate 7 false).length := by simp; omega
  have hF : (flagsF (hist tx item m)).getD tx.toNat false = true := by
    rw [flagsF, hist, flagsGo_reads tx item _ hf]
    generalize List.replicate 7 false = es at *
    simp [flagsGo, hlen]
  rw [doneL, List.filter_eq_self]
  intro o ho
  have : o.tx = tx := by
    simp only [hist, List.mem_append, List.mem_replicate, List.mem_cons, List.not_mem_nil, or_false] at ho
    rcases ho with ⟨_, rfl⟩ | rfl | rfl <;> rfl
  rw [this, hF]
theorem playGo_reads (tx item : Int) (vs : List Int) (hv : vs[item.toNat - 1]? = some 0) (rest : List HOp) (m : Nat) : ∀ (seen : List Int) (ds : List (Int × Int)) (c : Int), ds[tx.toNat]? = some (c, 0) →
    playGo vs seen ds (List.replicate m ⟨tx, 1, item⟩ ++ rest) = playGo vs (seen ++ List.replicate m 0) (ds.set tx.toNat (c + m, 0)) rest := by
  induction m with
  | zero =>
    intro seen ds c hd
    obtain ⟨h1, h2⟩ := List.getElem?_eq_some_iff.1 hd
    have : ds.set tx.toNat (c, 0) = ds := by rw [← h2, List.set_getElem_self]
    simp [this]
  | succ m ih =>
    intro seen ds c hd
    obtain ⟨h1, h2⟩ := List.getElem?_eq_some_iff.1 hd
    rw [List.replicate_succ, List.cons_append, playGo]
    simp only [if_true, List.getD_eq_getElem?_getD, hd, hv, Option.getD_some, Int.add_zero]
    rw [ih _ _ (c + 1) (by rw [List.getElem?_set_self h1])]
    rw [List.set_set, List.replicate_succ, List.append_assoc]
    congr 3
    · simp; omega
theorem play_hist (tx item : Int) (ht : 1 ≤ tx ∧ tx ≤ 6) (hi : 1 ≤ item ∧ item ≤ 6) (m : Nat) (hm : m ≤ 29) :
    playF (hist tx item m) = ((List.replicate 6 0).set (item.toNat - 1) (7 * tx + (m + 1)), List.replicate m 0) := by
  rw [playF, done_hist tx item ht, hist, playGo_reads tx item _ (by rw [List.getElem?_replicate, if_pos (by omega)]) _ _ _ _ 0 (by rw [List.getElem?_replicate, if_pos (by omega)])]
  have h7 : tx.toNat < 7 := by omega
  simp [playGo, h7]
  congr 1
  omega


/-! ### The walk. -/
set_option maxRecDepth 100000 in
set_option maxHeartbeats 1000000 in
theorem walk_out (tx k item : Int) (w : World) (h : ¬ (1 ≤ tx ∧ tx ≤ 6 ∧ 1 ≤ k ∧ k ≤ 30 ∧ 1 ≤ item ∧ item ≤ 6)) :
    Calls Try.prog 7 #[.int .i64 tx, .int .i64 k, .int .i64 item] w fun e w' => e = .returned (.bool true) ∧ Below w.heap.size w w' := by
  by_cases h1 : tx < 1
  · go_enter Try.func7, Try.ntmps7
    go_wp2
    go_ret
    exact ⟨rfl, Below.refl _ _⟩
  by_cases h2 : 6 < tx
  · go_enter Try.func7, Try.ntmps7
    go_wp2
    go_ret
    exact ⟨rfl, Below.refl _ _⟩
  by_cases h3 : k < 1
  · go_enter Try.func7, Try.ntmps7
    go_wp2
    go_ret
    exact ⟨rfl, Below.refl _ _⟩
  by_cases h4 : 30 < k
  · go_enter Try.func7, Try.ntmps7
    go_wp2
    go_ret
    exact ⟨rfl, Below.refl _ _⟩
  by_cases h5 : item < 1
  · go_enter Try.func7, Try.ntmps7
    go_wp2
    go_ret
    exact ⟨rfl, Below.refl _ _⟩
  by_cases h6 : 6 < item
  · go_enter Try.func7, Try.ntmps7
    go_wp2
    go_ret
    exact ⟨rfl, Below.refl _ _⟩
  omega

set_option maxRecDepth 100000 in
set_option maxHeartbeats 2000000 in
theorem walk_in (tx item : Int) (m : Nat) (w : World) (ht : 1 ≤ tx ∧ tx ≤ 6) (hm : m ≤ 29) (hi : 1 ≤ item ∧ item ≤ 6) :
    Calls Try.prog 7 #[.int .i64 tx, .int .i64 ((m : Int) + 1), .int .i64 item] w fun e w' => e = .returned (.bool true) ∧ Below w.heap.size w w' := by
  have HOK := Lib.hid (hist_ok tx item ht hi m hm)
  have HP := Lib.hid (play_hist tx item ht hi m hm)
  obtain ⟨t1, t2⟩ := ht
  obtain ⟨i1, i2⟩ := hi
  go_enter Try.func7, Try.ntmps7
  go_wp2
  go_loopw [7, 8] (fun s7 i wr => ∃ j : Nat, j ≤ m ∧ i = .int .i64 (j + 1) ∧ wr.ownsRow w.heap.size 51 3 s7 j (cellsH (List.replicate j ⟨tx, 1, item⟩)) ∧ Below w.heap.size w wr) (fun _ i _ => m + 1 - (intOf i).toNat)
  case atStart => exact ⟨0, Nat.zero_le _, rfl, World.ownsRow_nil _ _ _ _, Below.refl _ _⟩
  case round =>
    obtain ⟨j, hj, rfl, hown, hbw⟩ := hrel
    obtain ⟨A, c, rfl⟩ := own_slice hown
    have hsz := hbw.size
    by_cases hlt : j < m
    · go_wp2_with (at_builtin; (refine wpList_app rfl (.tmp 40) (.tmp 44) _ rfl w.heap.size slt_op (n := j) (xs := cellsH (List.replicate j ⟨tx, 1, item⟩)) (m := 1) (news := [.int .i64 tx, .int .i64 1, .int .i64 item]) rfl (own_alloc hown _) rfl (rd_new' _ _ [.int .i64 tx, .int .i64 1, .int .i64 item] (by simp) rfl) (oneH [⟨tx, 1, item⟩]) (by omega) (by simp; omega) ?_; intro v5 w5 hown5 hg5 hb5 hat5 hne5))
      have HO5 : Hid (w5.ownsRow w.heap.size 51 3 v5 (j + 1) (cellsH (List.replicate (j + 1) ⟨tx, 1, item⟩))) := Lib.hid (by rw [List.replicate_succ', cellsH_append]; exact hown5)
      go_roundw
      case rel => exact ⟨j + 1, by omega, by go_num, HO5.out, (hbw.alloc (by omega) _).trans hb5⟩
      case measure => simp [intOf]; omega
    · obtain rfl : j = m := by omega
      go_wp2_with (first
        | (at_builtin; (refine wpList_app rfl (.tmp 46) (.tmp 52) _ rfl w.heap.size slt_op (n := j) (xs := cellsH (List.replicate j ⟨tx, 1, item⟩)) (m := 2) (news := [.int .i64 tx, .int .i64 2, .int .i64 item, .int .i64 tx, .int .i64 3, .int .i64 0]) rfl (own_alloc hown _) rfl (rd_new' _ _ [.int .i64 tx, .int .i64 2, .int .i64 item, .int .i64 tx, .int .i64 3, .int .i64 0] (by simp) rfl) (oneH [⟨tx, 2, item⟩, ⟨tx, 3, 0⟩]) (by omega) (by simp; omega) ?_; intro v5 w5 hown5 hg5 hb5 hat5 hne5; obtain ⟨A5, c5, rfl⟩ := own_slice hown5)))
      have hbw5 : Below w.heap.size w w5 := (hbw.alloc (by omega) _).trans hb5
      have hR5 : Rd w5 w5.heap.size 3 A5 (j + 2) (cellsH (hist tx item j)) := by rw [hist, cellsH_append]; exact rd_own hown5
      refine ((values_any A5 (j + 2) c5 (hist tx item j) w5 hR5 (by omega)).1 HOK.out).mono ?_
      rintro e w6 ⟨v6, rfl, ho6, hb6⟩
      rw [HP.out] at ho6
      have hR6 := (hR5.below hb6).more hb6.size
      have hbw6 : Below w.heap.size w w6 := hbw5.trans (hb6.mono hbw5.size)
      obtain ⟨A6, c6, rfl⟩ := own_slice ho6
      go_wp2_with fail
      refine ((seen_any A5 (j + 2) c5 (hist tx item j) w6 hR6 (by omega)).1 HOK.out).mono ?_
      rintro e w7 ⟨v7, m7, rfl, ho7, hb7⟩
      rw [HP.out] at ho7
      have hbw7 : Below w.heap.size w w7 := hbw6.trans (hb7.mono hbw6.size)
      have hl7 := own_ilen ho7
      obtain ⟨A7, c7, rfl⟩ := own_slice ho7
      obtain ⟨g, off, x, he, _, hx, hc⟩ := ((rd_own ho6).below hb7).int (k := item.toNat - 1) (by omega)
      cases he
      have hx2 : x = 7 * tx + (j + 1) := by
        rw [List.getElem?_set_self (by simp; omega)] at hx
        simpa using hx.symm
      subst hx2
      simp at hl7
      subst hl7
      have i3 : item.toNat - 1 < 6 := by omega
      clear hx ho6 ho7 hR5 hR6 hown5 hown hb5 hb6 hb7
      go_wp2
      go_ret
      exact ⟨rfl, hbw7⟩

theorem walk (tx k item : Int) (w : World) :
    Calls Try.prog 7 #[.int .i64 tx, .int .i64 k, .int .i64 item] w fun e w' => e = .returned (.bool true) ∧ Below w.heap.size w w' := by
  by_cases h : 1 ≤ tx ∧ tx ≤ 6 ∧ 1 ≤ k ∧ k ≤ 30 ∧ 1 ≤ item ∧ item ≤ 6
  · obtain ⟨m, rfl⟩ : ∃ m : Nat, k = (m : Int) + 1 := ⟨(k - 1).toNat, by omega⟩
    exact walk_in tx item m w ⟨h.1, h.2.1⟩ (by omega) ⟨h.2.2.2.2.1, h.2.2.2.2.2⟩
  · exact walk_out tx k item w h

theorem own : ownKnob Try.prog.godebug = none := by kernel_rfl

/-! ### The row. -/
set_option maxRecDepth 100000 in
theorem lifted (os : Os) (started : os.Started) (H : Type) (enc : TypeId × Value → H) :
    ReturnsInHanded {} Try.checked os 7 .any (Rows.playOneSpec.pre6 enc Try.prog Try.f7 Rows.playOneRow.domain false) (Rows.playOneSpec.post enc Try.prog Try.f7 false true false false) := by
  refine returnsInHanded_of_change (C := Try.checked) own started (by kernel_rfl) Try.func7
    (ChangeSpec.witness6 (enc := enc) (C := Try.checked) false ⟨#[], #[.int .i64 0, .int .i64 0, .int .i64 0], []⟩ 8 (by kernel_rfl) (by kernel_rfl) (by kernel_rfl) (by kernel_rfl)) ?_
  intro W base args ds gs before hval0 hW hcnd _
  have hval : ∀ (j : Nat) t v, Try.f7.params[j]? = some t → args[j]? = some v → Value.okWide Try.prog W .any base t v := hval0
  have hW' := hW
  obtain ⟨p, q, hA0, hV, rfl, hfz, hnd⟩ := hW
  have hA : DataW.TrodAll enc Try.prog W 0 (fun _ => true) true Try.f7.params.toList args.toList ds p := hA0
  rw [Try.params7] at hA hval
  obtain ⟨v0, vs0, d0, ds0, p0, q0, hargs, rfl, rfl, h0, r0⟩ := trodAll_cons hA
  obtain ⟨v1, vs1, d1, ds1, p1, q1, rfl, rfl, rfl, h1, r1⟩ := trodAll_cons r0
  obtain ⟨v2, vs2, d2, ds2, p2, q2, rfl, rfl, rfl, h2, r2⟩ := trodAll_cons r1
  obtain ⟨rfl, rfl, rfl⟩ := trodAll_nil r2
  obtain rfl : args = #[v0, v1, v2] := by cases args; simp_all
  obtain ⟨rfl, rfl⟩ := trodVars_none hV
  obtain ⟨a0, rfl, rfl, rfl, w0⟩ := open_int Try.underlying3 (hval 0 3 v0 rfl rfl) h0
  obtain ⟨a1, rfl, rfl, rfl, w1⟩ := open_int Try.underlying3 (hval 1 3 v1 rfl rfl) h1
  obtain ⟨a2, rfl, rfl, rfl, w2⟩ := open_int Try.underlying3 (hval 2 3 v2 rfl rfl) h2
  clear hA0 hval0
  simp only [List.append_nil] at hW'
  refine (walk a0 a1 a2 W).mono fun e W' ⟨he, hg⟩ => ?_
  subst he
  exact ⟨_, rfl, post_below (pa := []) (pv := []) hW' hg rfl (fun _ _ _ => (trodAll_cons_mk (shut_bool Try.underlying4 _) trodAll_mk0)) (fun sp _ => (trodAll_cons_mk (shut_int Try.underlying3 w0) (trodAll_cons_mk (shut_int Try.underlying3 w1) (trodAll_cons_mk (shut_int Try.underlying3 w2) trodAll_mk0)))) (fun _ _ => rfl) (ok_one (by kernel_rfl) rfl (okWide_bool_mk Try.underlying4 _))⟩

theorem over : Rows.playOneRow.holds Try.pinned (OpenSpec.ofChange Rows.playOneSpec) :=
  OpenClaim.holds_of_wide 7 Try.f7 rfl rfl rfl rfl rfl rfl rfl ⟨rfl, rfl, rfl, rfl, rfl⟩ rfl rfl rfl rfl rfl (by kernel_rfl) Try.func7 (by kernel_rfl)
    (of_decide_eq_true (by kernel_rfl)) (by unfold Func.isWrapper; first | (rw [if_pos (by decide +kernel)]; kernel_rfl) | (rw [if_neg (by decide +kernel)]; exact ⟨rfl, rfl⟩))
    (fun os started H enc _ => lifted os started H enc)

/-- The statement. -/
theorem proved : Rows.PlayOneSaid :=
  over
#print axioms proved
end Go.Proofs.Ytaeckfhmmckopaa.playOne
