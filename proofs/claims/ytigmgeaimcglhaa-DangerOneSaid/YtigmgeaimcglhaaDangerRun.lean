
/-
  CONTRACTS of danger.may, Edges, Pivots, Run.
-/
import Derived.Test.YtigmgeaimcglhaaDanger

namespace Go.Proofs.Ytigmgeaimcglhaa
open Go.RowKit

theorem slt_deal : SlT Try.prog 57 64 1 8 := slt_of (z := .pointer none) Try.underlying57 (by kernel_rfl) (by kernel_rfl) (by decide) (by decide)

set_option maxHeartbeats 400000 in
theorem clone_deal (A : Option Addr) (n cap : Nat) (xs : List Value) (w : World) (hr : Rd w w.heap.size 1 A n xs) (h1 : ∀ u ∈ xs, u.oneCell' = true) (hm : n * 8 ≤ 140737488355328) :
    Calls Try.prog 65 #[.slice A n cap] w fun e w' => ∃ v, e = .returned v ∧ w'.ownsRow w.heap.size 64 1 v n xs ∧ Below w.heap.size w w' := by
  have hnil := fun (w : World) => Lib.run_eql_slice_nil (P := Try.prog) w 57 64 A n cap 0 0 Try.underlying57
  rcases A with _ | ad
  · have h0 : n = 0 := by
      rcases Nat.eq_zero_or_pos n with h | h
      · exact h
      · obtain ⟨_, _, h, _⟩ := hr.2 h
        cases h
    subst h0
    have hx : xs = [] := List.eq_nil_of_length_eq_zero (by simpa using hr.1)
    subst hx
    clear h1 hr
    go_enter Try.func65, Try.ntmps65
    go_wp2
    go_ret
    exact ⟨_, rfl, World.ownsRow_nil _ _ _ _, Below.refl _ _⟩
  · have H1 := Lib.hid h1
    clear h1
    go_enter Try.func65, Try.ntmps65
    go_wp2_with (at_builtin; refine wpList_app rfl _ _ _ rfl w.heap.size slt_deal rfl (World.ownsRow_made w #[] 0 (Nat.le_refl _) (by decide) rfl) rfl (hr.alloc (Nat.le_refl _) _) H1.out (by omega) (by simp) ?_; intro v1 w1 hown1 hg1 hb1 hat1 hne1)
    go_ret
    exact ⟨_, rfl, by simpa using hown1, ((Below.refl _ _).alloc (Nat.le_refl _) _).trans hb1⟩
/-- An append that a guard asks for. -/
theorem wpList_app_g {P : Program} {w : World} {ops : Array Oper} {rest : List Oper} {o : Oper} {a : Act} {Q : Exit → Act → World → Prop} (hgd : Region.wanted o (yielded ops a.tmps) = true) (s x : Operand) (t : TypeId)
    (ho : o.op = .call { callee := .builtin .append, args := #[s, x], argTypes := #[t, t] })
    {e : TypeId} {size bytes : Nat} (base : Nat) (T : SlT P t e size bytes) {v : Value} {n : Nat} {xs : List Value} (hs : a.eval s = v) (hown : w.ownsRow base e size v n xs)
    {B : Nat} {A : Option Addr} {m c : Nat} {news : List Value} (hx : a.eval x = .slice A m c) (hr : Rd w B size A m news) (h1 : ∀ u ∈ news, u.oneCell' = true) (hbytes : (n + m) * bytes ≤ 140737488355328) (hbase : base ≤ w.heap.size)
    (h : ∀ v' w', w'.ownsRow base e size v' (n + m) (xs ++ news) → w.grownBy w' v.ownBlock → Below base w w' → (v'.ownBlock = v.ownBlock ∨ v'.ownBlock = some w.heap.size) → (0 < n + m → v'.ownBlock ≠ none) → wpList P ops Q rest (a.put o.dst v') w') : wpList P ops Q (o :: rest) a w := by
  show if _ then _ else _
  rw [if_pos hgd]
  exact .inl (wp_app s x t ho base T hs hown hx hr h1 hbytes hbase fun v' w' h2 h3 h4 h5 h6 => h v' w' h2 h3 h4 h5 h6)
theorem call_danMay (args : Array Value) (w : World) : (callFunc 42 args).run Try.prog w = .ok (.enter 42 args) w := by kernel_rfl
theorem onePtr (L : VLay) (ts : List Int) : ∀ u ∈ ts.map (ptrD L), u.oneCell' = true := fun u hu => by
  obtain ⟨t, _, rfl⟩ := List.mem_map.1 hu
  rfl
theorem dgd_mem {s : VSt} (hn : (s.ds.map (·.tx)).Nodup) {d : Dl} (hd : d ∈ s.ds) : dgd s d.tx = d := by unfold dgd; rw [dget_mem hn hd]; rfl
set_option maxRecDepth 100000 in
set_option maxHeartbeats 4000000 in
theorem danMay_any {tk tl : TypeId} {lo : Nat} {s : VSt} {L : VLay} {tag : Nat → Int × Nat} {k0 : Nat} (w : World) (H : VHeap (vT tk tl) lo w s L tag) (hk : VOk k0 s) (hk0 : k0 ≤ 41) {d : Dl} (hd : d ∈ s.ds) :
    Calls Try.prog 42 #[.pointer (some ⟨L.g d.tx, 0, none⟩), L.vd] w fun e w' => e = .returned (.bool (danR.may s d)) ∧ Below w.heap.size w w' := by
  obtain ⟨Ad, cd, hvd⟩ := own_slice H.done
  have hdl : s.dn.length ≤ 41 := by have := hk.dn; omega
  have CM := hide (snapMay_any w H hk (by omega) hd)
  have CC := hide (fun w1 (hb : Below w.heap.size w w1) => clone_deal Ad s.dn.length cd (s.dn.map (ptrD L)) w1 (rd_own (by rw [← hvd]; exact (H.below hb).done)) (onePtr L s.dn) (by omega))
  have CE := hide (fun A n c w1 (hb : Below w.heap.size w w1) (hr : Rd w1 w1.heap.size 1 A n ((s.dn ++ [d.tx]).map (ptrD L))) (hn : n ≤ 60) => edges_any w1 (H.below hb) hk hk0 A n c (s.dn ++ [d.tx]) hr (fun t ht => by
    rcases List.mem_append.1 ht with h | h
    · exact H.sub t h
    · rw [List.mem_singleton.1 h]; exact List.mem_map.2 ⟨d, hd, rfl⟩) hn)
  have HR : Hid (pivL (sortS ltE (rawP antiD ((s.dn ++ [d.tx]).map (dgd s)))) = pivsD (doneD s ++ [d])) := Lib.hid (by rw [pivL_anti, List.map_append]; show pivsD (_ ++ [dgd s d.tx]) = _; rw [dgd_mem H.nodup hd]; rfl)
  have HV : Hid (danR.may s d = (snapR.may s d && (pivsD (doneD s ++ [d])).isEmpty)) := Lib.hid rfl
  rw [hvd] at CM ⊢
  obtain ⟨q, hq⟩ : ∃ q : Bool, snapR.may s d = q := ⟨_, rfl⟩
  rw [hq] at CM
  have HQ := Lib.hid hq
  clear H hk hvd hq
  generalize danR.may s d = R at *
  go_enter Try.func42, Try.ntmps42
  go_wp2_with fail
  refine (unhide CM).mono ?_
  rintro e w1 ⟨rfl, hb1⟩
  clear CM
  cases q
  · have HV2 : Hid (R = false) := Lib.hid (by rw [HV.out, HQ.out]; rfl)
    go_wp2
    go_ret
    exact ⟨ret_bool HV2.out.symm, hb1⟩
  · go_wp2_with fail
    refine (unhide CC w1 hb1).mono ?_
    rintro e w2 ⟨v2, rfl, ho2, hb2⟩
    obtain ⟨A2, c2, rfl⟩ := own_slice ho2
    have hbw2 := hb1.trans (hb2.mono hb1.size)
    have hz2 := hb2.size
    go_wp2_with ((with_reducible show wpList _ _ _ _ _ _); (refine wpList_app_g (by rfl) (.tmp 10) (.tmp 12) _ rfl w1.heap.size slt_deal (n := s.dn.length) (xs := s.dn.map (ptrD L)) (m := 1) (news := [.pointer (some ⟨L.g d.tx, 0, none⟩)]) rfl (own_alloc ho2 _) rfl (rd_new' _ _ [.pointer (some ⟨L.g d.tx, 0, none⟩)] (by simp) rfl) (by simp [Value.oneCell']) (by omega) (by simp; omega) ?_; intro v3 w3 hown3 hg3 hb3 hat3 hne3; obtain ⟨A3, c3, rfl⟩ := own_slice hown3))
    have hbw3 := hbw2.trans ((((Below.refl w2.heap.size w2).alloc (Nat.le_refl _) (.cells [.pointer (some ⟨L.g d.tx, 0, none⟩)].toArray 64)).mono hbw2.size).trans (hb3.mono hb1.size))
    have hr3 : Rd w3 w3.heap.size 1 A3 (s.dn.length + 1) ((s.dn ++ [d.tx]).map (ptrD L)) := by
      have := rd_own hown3
      rw [List.map_append]; exact this
    refine (unhide CE A3 (s.dn.length + 1) c3 w3 hbw3 hr3 (by omega)).mono ?_
    rintro e w4 ⟨A4, m4, c4, rfl, hr4, hm4, hb4⟩
    have hbw4 := hbw3.trans (hb4.mono hbw3.size)
    have CP := hide (pivots_any A4 m4 c4 _ w4 hr4 (by omega))
    rw [HR.out] at CP
    clear CC CE HR hr3 hown3 ho2 hr4
    go_wp2_with fail
    refine (unhide CP).mono ?_
    rintro e w5 ⟨A5, m5, c5, rfl, hr5, hm5, hb5⟩
    have hl5 := hr5.ilen
    have hbw5 := hbw4.trans (hb5.mono hbw4.size)
    have HV2 : Hid (R = decide (m5 = 0)) := Lib.hid (by
      rw [HV.out, HQ.out, Bool.true_and, ← hl5]
      cases pivsD (doneD s ++ [d]) <;> simp)
    clear CP hr5 hl5 HV
    by_cases h5 : m5 = 0
    · have HV3 : Hid (R = true) := Lib.hid (by rw [HV2.out, decide_eq_true h5])
      subst h5
      go_wp2
      go_ret
      exact ⟨ret_bool HV3.out.symm, hbw5⟩
    · have HV3 : Hid (R = false) := Lib.hid (by rw [HV2.out, decide_eq_false h5])
      have h6 : ((m5 : Int) == 0) = false := by rw [beq_eq_false_iff_ne]; omega
      go_wp2
      go_ret
      exact ⟨ret_bool HV3.out.symm, hbw5⟩
set_option maxHeartbeats 2000000 in
theorem dedges_any (A : Option Addr) (n c : Nat) (h : List HOp) (w : World) (hr : Rd w w.heap.size 3 A n (cellsH h)) (hm : n ≤ 6000000000000) (hok : okH h) :
    Calls Try.prog 19 #[.slice A n c] w fun e w' => ∃ A' m c', e = .returned (.tuple #[.slice A' m c', .nilIface]) ∧ Rd w' w'.heap.size 2 A' m (dcells (sortS ltE (rawP antiD (doneD (playV snapR h))))) ∧ m ≤ 3600 ∧ Below w.heap.size w w' := by
  have CR := hide (right_h A n c h w hr hm)
  rw [show (checkF h).2 = 0 from hok] at CR
  have CD := hide (fun w1 (hb : Below w.heap.size w w1) => deals_any A n c h w1 ((hr.below hb).more hb.size) hok)
  generalize playV snapR h = s at *
  clear hr hok
  go_enter Try.func19, Try.ntmps19
  go_wp2_with fail
  refine (unhide CR).mono ?_
  rintro e w1 ⟨rfl, hb1⟩
  rw [errV_zero]
  go_wp2_with fail
  refine (unhide CD w1 hb1).mono ?_
  rintro e w2 ⟨L, tag, rfl, H2, hk2, hb2⟩
  have hbw2 := hb1.trans (hb2.mono hb1.size)
  obtain ⟨Ad, cd, hvd⟩ := own_slice H2.done
  have hdl := hk2.dn
  have CE := hide (edges_any w2 H2 hk2 (by omega) Ad s.dn.length cd s.dn (rd_own (by rw [← hvd]; exact H2.done)) H2.sub (by omega))
  rw [hvd]
  clear CR CD H2 hk2 hvd hb1 hb2
  go_wp2_with fail
  refine (unhide CE).mono ?_
  rintro e w3 ⟨A3, m3, c3, rfl, hr3, hm3, hb3⟩
  have HR3 := hide hr3
  clear hr3 CE
  go_wp2
  go_ret2
  exact ⟨_, _, _, rfl, unhide HR3, hm3, hbw2.trans (hb3.mono hbw2.size)⟩
theorem dedges_no (A : Option Addr) (n c : Nat) (h : List HOp) (w : World) (hr : Rd w w.heap.size 3 A n (cellsH h)) (hm : n ≤ 6000000000000) (hno : ¬ okH h) :
    Calls Try.prog 19 #[.slice A n c] w fun e w' => e = .returned (.tuple #[.slice none 0 0, errV (checkF h).2]) ∧ Below w.heap.size w w' := by
  have CR := hide (right_h A n c h w hr hm)
  rw [ne_errV (show (checkF h).2 ≠ 0 from hno)] at CR ⊢
  generalize (checkF h).2 = ev at *
  clear hno hr
  go_enter Try.func19, Try.ntmps19
  go_wp2_with fail
  refine (unhide CR).mono ?_
  rintro e w1 ⟨rfl, hb1⟩
  go_wp2
  go_ret2
  exact ⟨rfl, hb1⟩
set_option maxHeartbeats 2000000 in
theorem dpivots_any (A : Option Addr) (n c : Nat) (h : List HOp) (w : World) (hr : Rd w w.heap.size 3 A n (cellsH h)) (hm : n ≤ 6000000000000) (hok : okH h) :
    Calls Try.prog 20 #[.slice A n c] w fun e w' => ∃ A' m c', e = .returned (.tuple #[.slice A' m c', .nilIface]) ∧ Rd w' w'.heap.size 1 A' m (cellsI (pivsD (doneD (playV snapR h)))) ∧ m ≤ 6 ∧ Below w.heap.size w w' := by
  have CE := hide (dedges_any A n c h w hr hm hok)
  have HR := Lib.hid (pivL_anti (doneD (playV snapR h)))
  clear hr hok
  go_enter Try.func20, Try.ntmps20
  go_wp2_with fail
  refine (unhide CE).mono ?_
  rintro e w1 ⟨A1, m1, c1, rfl, hr1, hm1, hb1⟩
  have CP := hide (pivots_any A1 m1 c1 _ w1 hr1 (by omega))
  rw [HR.out] at CP
  clear hr1 CE
  go_wp2_with fail
  refine (unhide CP).mono ?_
  rintro e w2 ⟨A2, m2, c2, rfl, hr2, hm2, hb2⟩
  have HR2 := hide hr2
  clear hr2 CP
  go_wp2
  go_ret2
  exact ⟨_, _, _, rfl, unhide HR2, hm2, hb1.trans (hb2.mono hb1.size)⟩
theorem dpivots_no (A : Option Addr) (n c : Nat) (h : List HOp) (w : World) (hr : Rd w w.heap.size 3 A n (cellsH h)) (hm : n ≤ 6000000000000) (hno : ¬ okH h) :
    Calls Try.prog 20 #[.slice A n c] w fun e w' => e = .returned (.tuple #[.slice none 0 0, errV (checkF h).2]) ∧ Below w.heap.size w w' := by
  have CR := hide (dedges_no A n c h w hr hm hno)
  rw [ne_errV (show (checkF h).2 ≠ 0 from hno)] at CR ⊢
  generalize (checkF h).2 = ev at *
  clear hno hr
  go_enter Try.func20, Try.ntmps20
  go_wp2_with fail
  refine (unhide CR).mono ?_
  rintro e w1 ⟨rfl, hb1⟩
  go_wp2
  go_ret2
  exact ⟨rfl, hb1⟩
set_option maxRecDepth 100000 in
set_option maxHeartbeats 4000000 in
theorem dan_run (A : Option Addr) (n c : Nat) (h : List HOp) (w : World) (hr : Rd w w.heap.size 3 A n (cellsH h)) (hm : n ≤ 6000000000000) (hok : okH h) :
    Calls Try.prog 21 #[.slice A n c] w fun e w' => OutC w w' e (playV danR h).dn (seenOf (playV danR h)) (playV danR h).last := by
  have CR := hide (fun w1 (hb : Below w.heap.size w w1) => right_h A n c h w1 ((hr.below hb).more hb.size) hm)
  rw [show (checkF h).2 = 0 from hok] at CR
  have hlen := okH_len hok
  have hn : n ≤ 40 := by rw [← hr.hlen]; exact hlen
  have CP := hide (fun w1 (hb : Below w.heap.size w w1) => vplay_any (tk := 3) (tl := 3) A n c h danR (fun s d i => Nat.le_succ _) 30 42 #[] #[] #[] #[] w1 w1 none (.inl ⟨rfl, rfl⟩) (Below.refl _ _) ((hr.below hb).more hb.size) hn (okH_right hok) call_snapSee call_danMay
    (fun s L tag w2 d i H hk hd h1 h2 _ => ((fun w2 H hk hd h1 h2 => snapSee_any w2 H hk hd h1 h2 _) w2 H hk hd h1 h2).mono fun e w' ⟨he, hb⟩ => ⟨he, L, tag, Looked.none H hb⟩)
    (fun s L tag w2 d H hk hd _ => (danMay_any w2 H hk (by omega) hd).mono fun e w' ⟨he, hb⟩ => ⟨he, hb⟩))
  have HZ := hide (fun w1 (hb : Below (w.heap.size + 1) (w.alloc (.cells #[.slice none 0 0, .slice none 0 0, .slice none 0 0] 28)) w1) => (Blk.new w 28 [.slice none 0 0, .slice none 0 0, .slice none 0 0]).below hb (Nat.lt_succ_self _))
  have hb0 : Below w.heap.size w (w.alloc (.cells #[.slice none 0 0, .slice none 0 0, .slice none 0 0] 28)) := (Below.refl _ _).alloc (Nat.le_refl _) _
  have HB0 := hide hb0
  have hz0 : (w.alloc (.cells #[.slice none 0 0, .slice none 0 0, .slice none 0 0] 28)).heap.size = w.heap.size + 1 := by simp
  have HP : Hid (playV danR h = playV danR h) := Lib.hid rfl
  generalize playV danR h = s at *
  clear hr hok hb0 hlen
  go_enter Try.func21, Try.ntmps21
  go_wp2_with fail
  refine (unhide CR _ (unhide HB0)).mono ?_
  rintro e w1 ⟨rfl, hb1⟩
  have hbw1 := (unhide HB0).trans (hb1.mono (unhide HB0).size)
  have hz1 := hb1.size
  have hbz1 : Below (w.heap.size + 1) (w.alloc (.cells #[.slice none 0 0, .slice none 0 0, .slice none 0 0] 28)) w1 := hb1.mono (by omega)
  rw [errV_zero]
  go_wp2_with fail
  refine (unhide CP w1 hbw1).mono ?_
  rintro e w2 ⟨L, tag, rfl, hP2, hk2⟩
  have hb2 := hP2.below
  have hz2 := hb2.size
  have hlB := hP2.heap.last
  rw [hP2.gl] at hlB
  have hl6 := hk2.last
  have CO := hide (out_any w2 hP2.heap hk2 (by omega) (some ⟨w1.heap.size + 1, 0, none⟩) 6 6)
  have hbw2 := hbw1.trans (hb2.mono hbw1.size)
  have hbz2 := hbz1.trans (hb2.mono (by omega))
  clear hP2 hk2
  go_wp2_with fail
  refine (unhide CO).mono ?_
  rintro e w3 ⟨v1, v2, rfl, ho1, ho2, _, hb3⟩
  have hz3 := hb3.size
  have hbw3 := hbw2.trans (hb3.mono hbw2.size)
  have hB4 := unhide HZ w3 (hbz2.trans (hb3.mono (by omega)))
  have hl3 := hlB.below hb3 hlB.lt
  obtain ⟨A1, c1, rfl⟩ := own_slice ho1
  obtain ⟨A2, c2, rfl⟩ := own_slice ho2
  have x0 := hB4.cellS (i := 0) (v := .slice none 0 0) rfl
  have x1 := hB4.cellS (i := 1) (v := .slice none 0 0) rfl
  have x2 := hB4.cellS (i := 2) (v := .slice none 0 0) rfl
  have f0 := hB4.frozen 0
  have f1 := hB4.frozen 1
  have f2 := hB4.frozen 2
  have hR := ((hB4.put 0 (.slice A1 s.dn.length c1)).put 1 (.slice A2 (seenOf s).length c2)).put 2 (.slice (some ⟨w1.heap.size + 1, 0, none⟩) 6 6)
  have r0 := hR.cellS (i := 0) (v := .slice A1 s.dn.length c1) rfl
  have r1 := hR.cellS (i := 1) (v := .slice A2 (seenOf s).length c2) rfl
  have r2 := hR.cellS (i := 2) (v := .slice (some ⟨w1.heap.size + 1, 0, none⟩) 6 6) rfl
  have hbx := ((hbw3.setCell (p := ⟨w.heap.size, 0, none⟩) (Nat.le_refl _) (.slice A1 s.dn.length c1)).setCell (p := ⟨w.heap.size, 1, none⟩) (Nat.le_refl _) (.slice A2 (seenOf s).length c2)).setCell (p := ⟨w.heap.size, 2, none⟩) (Nat.le_refl _) (.slice (some ⟨w1.heap.size + 1, 0, none⟩) 6 6)
  have o1 := own_far (own_far (own_far ho1 (p := ⟨w.heap.size, 0, none⟩) (by simp; omega) (.slice A1 s.dn.length c1)) (p := ⟨w.heap.size, 1, none⟩) (by simp; omega) (.slice A2 (seenOf s).length c2)) (p := ⟨w.heap.size, 2, none⟩) (by simp; omega) (.slice (some ⟨w1.heap.size + 1, 0, none⟩) 6 6)
  have o2 := own_far (own_far (own_far ho2 (p := ⟨w.heap.size, 0, none⟩) (by simp; omega) (.slice A1 s.dn.length c1)) (p := ⟨w.heap.size, 1, none⟩) (by simp; omega) (.slice A2 (seenOf s).length c2)) (p := ⟨w.heap.size, 2, none⟩) (by simp; omega) (.slice (some ⟨w1.heap.size + 1, 0, none⟩) 6 6)
  have o3 := ((hl3.far (p := ⟨w.heap.size, 0, none⟩) (by simp; omega) (.slice A1 s.dn.length c1)).far (p := ⟨w.heap.size, 1, none⟩) (by simp; omega) (.slice A2 (seenOf s).length c2)).far (p := ⟨w.heap.size, 2, none⟩) (by simp; omega) (.slice (some ⟨w1.heap.size + 1, 0, none⟩) 6 6)
  have o4 := rd_own (own_blk o3 (base := 0) (size := 1) (n := 6) (Nat.zero_le _) (by decide) (by unfold cellsI; rw [List.length_map, hl6]))
  have HO := hide (And.intro (rd_own o1) (And.intro (rd_own o2) o4))
  have hcap := own_capV ho1
  clear o1 o2 o3 o4 ho1 ho2 hR hB4 hlB hl3
  go_wp2
  refine bodyPost_ret (v := .tuple #[.agg #[.slice A1 s.dn.length c1, .slice A2 (seenOf s).length c2, .slice (some ⟨w1.heap.size + 1, 0, none⟩) 6 6], .nilIface]) (by simp [results, Try.results21, go_sem, r0, r1, r2]) rfl ?_
  exact ⟨A1, c1, A2, c2, w1.heap.size + 1, _, _, rfl, (unhide HO).1, (unhide HO).2.1, (unhide HO).2.2, hbx, hcap⟩
set_option maxRecDepth 100000 in
set_option maxHeartbeats 4000000 in
theorem dan_no (A : Option Addr) (n c : Nat) (h : List HOp) (w : World) (hr : Rd w w.heap.size 3 A n (cellsH h)) (hm : n ≤ 6000000000000) (hno : ¬ okH h) :
    Calls Try.prog 21 #[.slice A n c] w fun e w' => e = .returned (.tuple #[.agg #[.slice none 0 0, .slice none 0 0, .slice none 0 0], errV (checkF h).2]) ∧ Below w.heap.size w w' := by
  have CR := hide (fun w1 (hb : Below w.heap.size w w1) => right_h A n c h w1 ((hr.below hb).more hb.size) hm)
  rw [ne_errV (show (checkF h).2 ≠ 0 from hno)] at CR ⊢
  generalize (checkF h).2 = ev at *
  have HZ := hide (fun w1 (hb : Below (w.heap.size + 1) (w.alloc (.cells #[.slice none 0 0, .slice none 0 0, .slice none 0 0] 28)) w1) => (Blk.new w 28 [.slice none 0 0, .slice none 0 0, .slice none 0 0]).below hb (Nat.lt_succ_self _))
  have hb0 : Below w.heap.size w (w.alloc (.cells #[.slice none 0 0, .slice none 0 0, .slice none 0 0] 28)) := (Below.refl _ _).alloc (Nat.le_refl _) _
  have HB0 := hide hb0
  have hz0 : (w.alloc (.cells #[.slice none 0 0, .slice none 0 0, .slice none 0 0] 28)).heap.size = w.heap.size + 1 := by simp
  clear hr hno hb0
  go_enter Try.func21, Try.ntmps21
  go_wp2_with fail
  refine (unhide CR _ (unhide HB0)).mono ?_
  rintro e w1 ⟨rfl, hb1⟩
  have hbw1 := (unhide HB0).trans (hb1.mono (unhide HB0).size)
  have hB4 := unhide HZ w1 (hb1.mono (by omega))
  have x0 := hB4.cellS (i := 0) (v := .slice none 0 0) rfl
  have x1 := hB4.cellS (i := 1) (v := .slice none 0 0) rfl
  have x2 := hB4.cellS (i := 2) (v := .slice none 0 0) rfl
  have f0 := hB4.frozen 0
  have f1 := hB4.frozen 1
  have f2 := hB4.frozen 2
  have hR := ((hB4.put 0 (.slice none 0 0)).put 1 (.slice none 0 0)).put 2 (.slice none 0 0)
  have r0 := hR.cellS (i := 0) (v := .slice none 0 0) rfl
  have r1 := hR.cellS (i := 1) (v := .slice none 0 0) rfl
  have r2 := hR.cellS (i := 2) (v := .slice none 0 0) rfl
  have hbx := ((hbw1.setCell (p := ⟨w.heap.size, 0, none⟩) (Nat.le_refl _) (.slice none 0 0)).setCell (p := ⟨w.heap.size, 1, none⟩) (Nat.le_refl _) (.slice none 0 0)).setCell (p := ⟨w.heap.size, 2, none⟩) (Nat.le_refl _) (.slice none 0 0)
  clear hR hB4 HZ HB0 CR
  go_wp2
  refine bodyPost_ret (v := .tuple #[.agg #[.slice none 0 0, .slice none 0 0, .slice none 0 0], .iface 105 (.int .i64 ev)]) (by simp [results, Try.results21, go_sem, r0, r1, r2]) rfl ?_
  exact ⟨rfl, hbx⟩
end Go.Proofs.Ytigmgeaimcglhaa
