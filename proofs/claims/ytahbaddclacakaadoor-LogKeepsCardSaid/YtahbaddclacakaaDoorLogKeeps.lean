
/-
  PROVED: the tied card of lanelaw3.LogKeeps: it returns true: what is safe is kept behind a crash. Condition: the listed variables begin as the program's text lays them (the card ties them); the form's own reach.
-/
import Derived.Test.YtahbaddclacakaaDoorDoorT
import Derived.Test.YtahbaddclacakaaDoorCrash
import Derived.Test.YtahbaddclacakaaDoorKeepsP
import Derived.Test.YtahbaddclacakaaDoorN1
import Derived.Deep.CutBlock

namespace Go.Proofs.YtahbaddclacakaaDoor.logKeeps
open Go.ChangeShapes Go.WideShapes Go.ChangeAt Go.RowKit Go.Deep Go.Proofs.YtahbaddclacakaaDoor

section
variable {H : Type} {enc : TypeId × Value → H} {P : Program} {W : World}
/-- A slice of numbers, and that they are in range. -/
theorem open_isr {t e : TypeId} (ht : P.underlying t = some (.slice e)) (he : P.underlying e = some (.int .i64)) (hC : P.cellsOf e = 1) {base : Nat} {v : Value} {d : DataW H} {p : List MemPlace} (hv : Value.okWide P W .any base t v) (h : DataW.Trod enc P W 0 (fun _ => true) true t v d p)
    (hsz : ∀ elems spare, d = .slice elems spare → (elems.length + spare.length) * 8 ≤ reachBytes) :
    ∃ A n c l, v = .slice A n c ∧ Rd W W.heap.size 1 A n (cellsI l) ∧ n * 8 ≤ 140737488351232 ∧ ∀ x ∈ l, x ≤ 9223372036854775807 := by
  obtain ⟨A, n, c, rfl⟩ := okWide_slice ht hv
  obtain ⟨fuel, hf⟩ := h
  rcases open_slice ht hf with ⟨hcs, _⟩ | ⟨a, len, cap, m, k, D, Pl, hcs, _, hlc, hcm, hm, hx, hel⟩
  · simp [Value.cells] at hcs
    obtain ⟨rfl, rfl, rfl⟩ := hcs
    exact ⟨none, 0, 0, [], rfl, Rd.nil, by omega, by simp⟩
  · simp [Value.cells] at hcs
    obtain ⟨rfl, rfl, rfl⟩ := hcs
    simp only [if_true] at hm
    subst hm
    have hb : n * 8 ≤ 140737488351232 := by
      simp only [Prod.mk.injEq] at hx
      have := hsz _ _ hx.1
      simp only [List.length_map, List.length_range, reachBytes] at this
      omega
    have hcell : ∀ i, i < n → ∃ x : Int, W.cell? ((a.add (i * 1)).add 0) = some (.int .i64 x) ∧ x ≤ 9223372036854775807 := by
      intro i hin
      obtain ⟨cs', hc, ht'⟩ := hel i (by omega)
      rw [hC] at hc
      obtain ⟨_, hcl, hat⟩ := World.cells?_some hc
      obtain ⟨x, hcx, _, hwf⟩ := DataW.trod_int he ht'
      refine ⟨x, (hat 0 (by omega)).trans (by rw [hcx]; rfl), ?_⟩
      rw [show (Lit.int .i64 x).wf = (decide (-9223372036854775808 ≤ x) && decide (x ≤ 9223372036854775807)) from rfl, Bool.and_eq_true] at hwf
      exact of_decide_eq_true hwf.2
    obtain ⟨l, hll, hl⟩ := list_of n hcell
    refine ⟨some a, n, _, l, rfl, ⟨by rw [cellsI, List.length_map, hll]; omega, fun hn => ?_⟩, hb, fun x hx => ?_⟩
    · obtain ⟨x, hx0, _⟩ := hcell 0 hn
      obtain ⟨b, off, s⟩ := a
      have hs : s = none := by
        have := spot_none hx0
        simpa [Addr.add] using this
      subst hs
      have hbl := World.block_lt_of_cell? W _ hx0
      rw [add_off] at hbl
      refine ⟨b, off, rfl, hbl, fun j u hu => ?_⟩
      rw [cellsI, List.getElem?_map] at hu
      cases hlj : l[j]? with
      | none => rw [hlj] at hu; cases hu
      | some x =>
        rw [hlj] at hu
        have := (hl j x hlj).1
        rw [add_off, Nat.mul_one, Nat.add_zero] at this
        rw [this]; exact hu
    · obtain ⟨j, hj⟩ := List.mem_iff_getElem?.1 hx
      exact (hl j x hj).2
end
/-- The log, what is done and the marks stand in the heap. -/
structure KS (w : World) (g : Nat) (wx : World) (s : LogSt) (A B : Option Addr) (m c d : Nat) : Prop where
  log : LogB wx g s
  I : KeepI s
  len : s.h.length = m
  done : wx.ownsRow (g + 1) 28 3 (.slice A m c) m (cellsH s.h)
  marks : wx.ownsRow (g + 1) 3 1 (.slice B (m + 1) d) (m + 1) (cellsI (marksL s.h))
  bel : Below w.heap.size w wx
  wg : w.heap.size ≤ g
section
variable {w wx wy : World} {g m c d : Nat} {s s' : LogSt} {A B : Option Addr}
theorem KS.m40 (K : KS w g wx s A B m c d) : m ≤ 40 := by rw [← K.len]; exact okH_len K.I.I.ok
theorem KS.glt (K : KS w g wx s A B m c d) : g + 1 ≤ wx.heap.size := K.log.lt
theorem KS.below (K : KS w g wx s A B m c d) (hb : Below wx.heap.size wx wy) : KS w g wy s A B m c d :=
  ⟨K.log.below hb (Nat.le_refl _), K.I, K.len, own_below K.done hb (Nat.le_refl _), own_below K.marks hb (Nat.le_refl _), K.bel.trans (hb.mono K.bel.size), K.wg⟩
theorem KS.to (K : KS w g wx s A B m c d) (hB : LogB wy g s') (hK : KeepI s') (hh : s'.h = s.h) (hg : wx.grownBy wy (some g)) : KS w g wy s' A B m c d :=
  ⟨hB, hK, by rw [hh]; exact K.len, by rw [hh]; exact own_but K.done hg (Nat.lt_succ_self _), by rw [hh]; exact own_but K.marks hg (Nat.lt_succ_self _), K.bel.trans (below_grown hg K.wg K.bel.size), K.wg⟩
theorem own_takeK {w : World} {base : Nat} {e : TypeId} {size : Nat} {A : Option Addr} {n c : Nat} {xs : List Value} (h : w.ownsRow base e size (.slice A n c) n xs) {k : Nat} (hk : k ≤ n) : w.ownsRow base e size (.slice A k c) k (xs.take (k * size)) := by
  obtain ⟨hl, h2⟩ := h
  refine ⟨by rw [List.length_take, hl]; exact Nat.min_eq_left (Nat.mul_le_mul_right _ hk), ?_⟩
  rcases h2 with ⟨hv, h0⟩ | ⟨g, cap, cur, hv, hb, hh, hnc, hcm, hsz, hx⟩
  · injection hv with e1 e2 e3
    subst e1 e3
    obtain rfl : k = 0 := by omega
    exact .inl ⟨rfl, rfl⟩
  · injection hv with e1 e2 e3
    subst e1 e3
    exact .inr ⟨g, c, cur, rfl, hb, hh, by omega, hcm, hsz, by rw [← hx, List.take_take, Nat.min_eq_left (Nat.mul_le_mul_right _ hk)]⟩
theorem own_capK {w : World} {base : Nat} {e : TypeId} {size : Nat} {A : Option Addr} {n c : Nat} {xs : List Value} (h : w.ownsRow base e size (.slice A n c) n xs) : n ≤ c := by
  rcases h.2 with ⟨hv, h0⟩ | ⟨g, cap, cur, hv, _, _, hnc, _⟩
  · injection hv with _ h1 h2; omega
  · injection hv with _ h1 h2; omega
/-- Behind a crash. -/
theorem KS.crash (K : KS w g wx s A B m c d) {keep : Int} {j : Nat} (hj : cntL (keptN s keep) s.h = j) (hB : LogB wy g (crashF s keep)) (hg : wx.grownBy wy (some g)) : KS w g wy (crashF s keep) A B j c d := by
  have hjm : j ≤ m := by rw [← hj, ← K.len]; exact cntL_le _ _
  have hh : (crashF s keep).h = s.h.take j := by rw [(crash_keep K.I keep).1, hj]
  refine ⟨hB, K.I.crash keep, by rw [hh, List.length_take, K.len]; omega, ?_, ?_, K.bel.trans (below_grown hg K.wg K.bel.size), K.wg⟩
  · have := own_takeK (own_but K.done hg (Nat.lt_succ_self _)) hjm
    rw [hh, ← cellsH_take]; exact this
  · have := own_takeK (own_but K.marks hg (Nat.lt_succ_self _)) (k := j + 1) (by omega)
    rw [Nat.mul_one, show (cellsI (marksL s.h)).take (j + 1) = cellsI (marksL (s.h.take j)) by rw [← marks_take (by rw [K.len]; exact hjm)]; simp [cellsI]] at this
    rw [hh]; exact this
theorem crash_len {s : LogSt} (I : LogI s) (keep : Int) : (crashF s keep).b.length = (flatL (crashF s keep).h).length ∧ (crashF s keep).safe = (flatL (crashF s keep).h).length := by
  rw [crash_is I]
  exact ⟨rfl, rfl⟩
theorem KS.push {v : Value} {n : Nat} {xs : List Value} (hB : LogB wx g s) (hI : KeepI s) (hl : s.h.length = m + 1) (hd : wx.ownsRow (g + 1) 28 3 (.slice A (m + 1) c) (m + 1) (cellsH s.h)) (hm : wx.ownsRow (g + 1) 3 1 v n xs) (hg : wx.grownBy wy v.ownBlock)
    (hm' : wy.ownsRow (g + 1) 3 1 (.slice B (m + 1 + 1) d) (m + 1 + 1) (cellsI (marksL s.h))) (hb : Below w.heap.size w wx) (hbb : Below (g + 1) wx wy) (hwg : w.heap.size ≤ g) : KS w g wy s A B (m + 1) c d := by
  obtain ⟨A', n', c', h1, h2⟩ := hB
  exact ⟨⟨A', n', c', h1.below hbb (Nat.lt_succ_self _), own_other h2 hm (by decide) hg⟩, hI, hl, own_other hd hm (by decide) hg, hm', hb.trans (hbb.mono (by omega)), hwg⟩
end

set_option maxRecDepth 100000 in
set_option maxHeartbeats 8000000 in
theorem walk (A0 : Option Addr) (n0 c0 : Nat) (h : List HOp) (A1 : Option Addr) (n1 c1 : Nat) (sy : List Int) (A2 : Option Addr) (n2 c2 : Nat) (fa : List Int) (A3 : Option Addr) (n3 c3 : Nat) (ke : List Int) (w : World) (hE : Et w) (hm : Mx w)
    (hr0 : Rd w w.heap.size 3 A0 n0 (cellsH h)) (b0 : n0 * 24 ≤ 140737488351232) (hr1 : Rd w w.heap.size 1 A1 n1 (cellsI sy)) (_b1 : n1 * 8 ≤ 140737488351232) (hr2 : Rd w w.heap.size 1 A2 n2 (cellsI fa)) (_b2 : n2 * 8 ≤ 140737488351232) (rg : ∀ x ∈ fa, x ≤ 9223372036854775807) (hr3 : Rd w w.heap.size 1 A3 n3 (cellsI ke)) (_b3 : n3 * 8 ≤ 140737488351232) :
    Calls Tryd.prog 5 #[.slice A0 n0 c0, .slice A1 n1 c1, .slice A2 n2 c2, .slice A3 n3 c3] w fun e w' => e = .returned (.bool true) ∧ Below w.heap.size w w' := by
  have C0 := hide (log_new w)
  obtain ⟨w1, hw1⟩ : ∃ w1, w1 = w.alloc (.cells #[.slice none 0 0, .string ⟨#[]⟩, .int .i64 0, .int .i64 (-1), .bool false] 55) := ⟨_, rfl⟩
  have hB1 : LogB w1 w.heap.size log0 := by rw [hw1]; exact log_new_is w
  have hb1 : Below w.heap.size w w1 := by rw [hw1]; exact (Below.refl _ _).alloc (Nat.le_refl _) _
  rw [← hw1] at C0
  have hz1 := hb1.size
  have hpos := hE.pos
  have hmp := hm.pos
  have HE := hide (fun w' (hb : Below w.heap.size w w') => And.intro (hE.below hb hpos) (hm.below hb hmp))
  clear hw1
  obtain ⟨e1, e2, e3⟩ := first_errs
  obtain ⟨k1, k2, k3, k4⟩ := first_keep
  obtain ⟨t1, t2, t3⟩ := first_end
  have C1 := hide (do_any w.heap.size log0 ⟨1, 2, 1⟩ w1 hB1 keep0.ok)
  have C2 := hide (fun w' (hB : LogB w' w.heap.size f1) => sync_any w.heap.size f1 w' hB k1.ok)
  have C3 := hide (fun w' (hB : LogB w' w.heap.size f2) => do_any w.heap.size f2 ⟨1, 3, 0⟩ w' hB k2.ok)
  have C4 := hide (fun w' (hB : LogB w' w.heap.size f3) hm' => crash_any w.heap.size f3 0 w' hB k3.I k3.ok hm' hmp)
  have C5 := hide (fun w' (hB : LogB w' w.heap.size f4) => all_any w.heap.size f4 w' hB k4.ok.h)
  have C6 := hide (fun w' (hB : LogB w' w.heap.size f4) => values_of w.heap.size f4 w' hB k4.I)
  have C7 := hide (fun w' (hB : LogB w' w.heap.size f4) => And.intro (bytes_any w.heap.size f4 w' hB) (safe_any w.heap.size f4 w' hB))
  unfold DoPost HOp.val at C1 C3
  rw [e1, errV_zero, show (doF log0 ⟨1, 2, 1⟩).2 = f1 from rfl] at C1
  rw [e2, errV_zero, show (syncF f1).2 = f2 from rfl] at C2
  rw [e3, errV_zero, show (doF f2 ⟨1, 3, 0⟩).2 = f3 from rfl] at C3
  rw [show crashF f3 0 = f4 from rfl] at C4
  rw [t1] at C5
  rw [t2] at C7
  have HT3 := Lib.hid t3
  have HKE := Lib.hid rg
  clear e1 e2 e3 k1 k2 k3 k4 t1 t2 t3 rg
  generalize (playF f4.h).1 = PV at *
  generalize f4 = g4 at *
  generalize f3 = g3 at *
  generalize f2 = g2 at *
  generalize f1 = g1 at *
  go_enter Tryd.func5, Tryd.ntmps5
  go_wp2_with fail
  refine (unhide C0).mono ?_
  rintro e w2 ⟨rfl, rfl⟩
  go_wp2_with fail
  refine (unhide C1).mono ?_
  rintro e w3 ⟨rfl, hB3, hg3⟩
  have hb3 := hb1.trans (below_grown hg3 (Nat.le_refl _) hz1)
  clear C1 C0 hB1 hg3
  go_wp2_with fail
  refine (unhide C2 w3 hB3).mono ?_
  rintro e w4 ⟨rfl, hB4, hg4⟩
  have hb4 := hb3.trans (below_grown hg4 (Nat.le_refl _) hb3.size)
  clear C2 hB3 hg4
  go_wp2_with fail
  refine (unhide C3 w4 hB4).mono ?_
  rintro e w5 ⟨rfl, hB5, hg5⟩
  have hb5 := hb4.trans (below_grown hg5 (Nat.le_refl _) hb4.size)
  clear C3 hB4 hg5
  go_wp2_with fail
  refine (unhide C4 w5 hB5 (unhide HE w5 hb5).2).mono ?_
  rintro e w6 ⟨rfl, hB6, hg6⟩
  have hb6 := hb5.trans (below_grown hg6 (Nat.le_refl _) hb5.size)
  clear C4 hB5 hg6
  go_wp2_with fail
  refine (unhide C5 w6 hB6).mono ?_
  rintro e w7 ⟨v7, rfl, ho7, hb7⟩
  obtain ⟨A7, c7, rfl⟩ := own_slice ho7
  have hbw7 := hb6.trans (hb7.mono hb6.size)
  have hB7 := hB6.below hb7 (Nat.le_refl _)
  clear C5 hB6 hb7 ho7
  go_wp2_with fail
  refine (unhide C6 w7 hB7).mono ?_
  rintro e w8 ⟨v8, rfl, ho8, hb8⟩
  obtain ⟨A8, c8, rfl⟩ := own_slice ho8
  have hbw8 := hbw7.trans (hb8.mono hbw7.size)
  have hB8 := hB7.below hb8 (Nat.le_refl _)
  obtain ⟨bb, off, x, he, hbl, hx, cx⟩ := (rd_own ho8).int (k := 0) (by omega)
  cases he
  have hx0 : x = 0 := by have := HT3.out; rw [hx] at this; exact Option.some.inj this
  subst hx0
  have cx0 := cx
  rw [Nat.add_zero] at cx0
  obtain ⟨C8, C9⟩ := unhide C7 w8 hB8
  have C8 := hide C8
  have C9 := hide C9
  clear C6 C7 hB7 hb8 ho8 hx
  go_wp2_with fail
  refine (unhide C8).mono ?_
  rintro e w9 ⟨rfl, rfl⟩
  go_wp2_with fail
  refine (unhide C9).mono ?_
  rintro e w10 ⟨rfl, rfl⟩
  clear C8 C9 cx cx0 hbl hB8
  have CN := hide (log_new w10)
  obtain ⟨g, hg⟩ : ∃ g, g = w10.heap.size := ⟨_, rfl⟩
  obtain ⟨w11, hw11⟩ : ∃ w11, w11 = w10.alloc (.cells #[.slice none 0 0, .string ⟨#[]⟩, .int .i64 0, .int .i64 (-1), .bool false] 55) := ⟨_, rfl⟩
  have hB11 : LogB w11 g log0 := by rw [hw11, hg]; exact log_new_is w10
  have hbw11 : Below w.heap.size w w11 := by rw [hw11]; exact hbw8.alloc hbw8.size _
  have hg11 : w11.heap.size = g + 1 := by rw [hw11, hg]; simp
  have hgw : w.heap.size ≤ g := by rw [hg]; exact hbw8.size
  rw [← hw11, ← hg] at CN
  have hg12 : g + 1 ≤ w11.heap.size := by omega
  have K12 : KS w g (w11.alloc (.cells #[.int .i64 0] 3)) log0 none (some ⟨w11.heap.size, 0, none⟩) 0 0 1 :=
    ⟨hB11.below ((Below.refl _ _).alloc (Nat.le_refl _) _) (Nat.le_refl _), keep0, rfl, World.ownsRow_nil _ _ _ _, own_blk (Blk.new w11 3 [.int .i64 0]) hg12 (by decide) rfl, hbw11.alloc hbw11.size _, hgw⟩
  have HK12 := hide K12
  clear hw11 hg hbw8 hg11 hB11 hb3 hb4 hb5 hb6 hbw7 hb1 hbw11 HT3 K12
  go_wp2_with fail
  refine (unhide CN).mono ?_
  rintro e w12 ⟨rfl, rfl⟩
  clear CN
  go_wp2
  go_loopw [16, 17, 18, 19] (fun s16 s17 s18 s19 wr => ∃ (r at_ : Nat) (s : LogSt) (A B : Option Addr) (m c d : Nat), r ≤ 4 ∧ at_ ≤ n0 ∧ s16 = .slice A m c ∧ s17 = .slice B (m + 1) d ∧ s18 = .int .i64 at_ ∧ s19 = .int .i64 r ∧ KS w g wr s A B m c d) (fun _ _ _ s19 _ => 4 - (intOf s19).toNat)
  case atStart => exact ⟨0, 0, log0, _, _, 0, 0, 1, Nat.zero_le _, Nat.zero_le _, rfl, rfl, rfl, rfl, unhide HK12⟩
  case round =>
    clear HK12
    obtain ⟨r, at_, s, A, B, m, c, d, hr4, hat, rfl, rfl, rfl, rfl, K⟩ := hrel
    have hm40 := K.m40
    by_cases hgo : r ≤ n2 ∧ r < 4
    · obtain ⟨hg2, hg3⟩ := hgo
      have hg4 : (r : Int) ≤ (n2 : Int) := by omega
      have hg5 : (r : Int) < 4 := by omega
      obtain ⟨wo, rfl⟩ : ∃ wo : World, wo = wr := ⟨_, rfl⟩
      have HKo := hide K
      have hbo := K.bel
      clear K
      go_upto_if 98 with fail
      go_cut [98] (fun s98 wx => ∃ s', KS w g wx s' A B m c d)
      case first =>
        as_aux_lemma =>
          by_cases hf : r < n2
          · obtain ⟨b2, f2, x, hA, hbl, hx, q1⟩ := ((hr2.below hbo).more hbo.size).int (k := r) hf
            cases hA
            have hxr := HKE.out x (List.mem_of_getElem? hx)
            have CF := hide (fail_any g s x wo (unhide HKo).log)
            have hfI : (r : Int) < (n2 : Int) := by omega
            clear hx
            go_wp2_with fail
            refine (unhide CF).mono ?_
            rintro e wx ⟨rfl, hBx, hgx⟩
            have K2 := (unhide HKo).to hBx ((unhide HKo).I.fail hxr) rfl hgx
            clear CF HKo hBx hgx
            go_wp2
            go_meet
            case rel => exact ⟨_, K2⟩
          · have hfI : ¬ (r : Int) < (n2 : Int) := by omega
            go_wp2
            go_meet
            case rel => exact ⟨s, unhide HKo⟩
      case rest =>
        obtain ⟨s', K2⟩ := hcut
        clear HKo hbo
        have HK2 := hide K2
        clear K2
        go_upto_block 2 with fail
        go_cut [16, 17, 18] (fun s16 s17 s18 wx => ∃ (at_ : Nat) (s : LogSt) (A B : Option Addr) (m c d : Nat), at_ ≤ n0 ∧ s16 = .slice A m c ∧ s17 = .slice B (m + 1) d ∧ s18 = .int .i64 at_ ∧ KS w g wx s A B m c d)
        case first =>
          as_aux_lemma =>
            go_wp2
            go_loopw [16, 17, 18, 20] (fun s16 s17 s18 s20 wr => ∃ (k at_ : Nat) (s : LogSt) (A B : Option Addr) (m c d : Nat), k ≤ 14 ∧ at_ ≤ n0 ∧ s16 = .slice A m c ∧ s17 = .slice B (m + 1) d ∧ s18 = .int .i64 at_ ∧ s20 = .int .i64 k ∧ KS w g wr s A B m c d) (fun _ _ _ s20 _ => 14 - (intOf s20).toNat)
            case atStart => exact ⟨0, at_, s', A, B, m, c, d, by omega, hat, rfl, rfl, rfl, rfl, unhide HK2⟩
            case round =>
              clear HK2 hat hm40
              obtain ⟨k, at_, s, A, B, m, c, d, hk14, hat, rfl, rfl, rfl, rfl, K⟩ := hrel
              have hm40 := K.m40
              by_cases hgo : k < 14 ∧ at_ < n0
              · obtain ⟨hg6, hg7⟩ := hgo
                have hg8 : (k : Int) < 14 := by omega
                have hg9 : (at_ : Int) < (n0 : Int) := by omega
                obtain ⟨wo, rfl⟩ : ∃ wo : World, wo = wr := ⟨_, rfl⟩
                have HKo := hide K
                have hbo := K.bel
                have hzo := hbo.size
                clear K
                go_upto_region 22 with fail
                go_cut [137] (fun s137 wx => s137 = .bool false ∧ ∃ s', KS w g wx s' A B m c d)
                case first =>
                  by_cases h1 : at_ < n1
                  · obtain ⟨b2, f2, x, hA, hbl, hx, q1⟩ := ((hr1.below hbo).more hbo.size).int (k := at_) h1
                    cases hA
                    have h1I : (at_ : Int) < (n1 : Int) := by omega
                    clear hx hbl
                    by_cases hx1 : x = 1
                    · subst hx1
                      have CS := hide (sync_any g s wo (unhide HKo).log (unhide HKo).I.ok)
                      obtain ⟨p1, p2, p3⟩ := sync_keep (s := s)
                      have HKS := Lib.hid (And.intro ((unhide HKo).I.sync) p1)
                      have HP3 := Lib.hid p3
                      generalize syncF s = y at *
                      obtain ⟨y1, y2⟩ := y
                      simp only at p2
                      have HP2 := Lib.hid p2
                      clear p1 p2 p3
                      rcases HP2.out with rfl | rfl
                      · rw [errV_zero] at CS
                        have hs : y2.safe = y2.b.length := HP3.out rfl
                        have CB := hide (fun w' (hB : LogB w' g y2) => And.intro (safe_any g y2 w' hB) (bytes_any g y2 w' hB))
                        rw [hs] at CB
                        clear hs
                        go_wp2_with fail
                        refine (unhide CS).mono ?_
                        rintro e wx ⟨rfl, hBx, hgx⟩
                        have K2 := (unhide HKo).to hBx HKS.out.1 HKS.out.2 hgx
                        obtain ⟨CB1, CB2⟩ := unhide CB wx hBx
                        have CB1 := hide CB1
                        have CB2 := hide CB2
                        clear CS HKo hBx hgx CB
                        go_wp2_with fail
                        refine (unhide CB1).mono ?_
                        rintro e wy ⟨rfl, rfl⟩
                        go_wp2_with fail
                        refine (unhide CB2).mono ?_
                        rintro e wz ⟨rfl, rfl⟩
                        go_wp2
                        go_meet
                        case rel => exact ⟨by simp, _, K2⟩
                      · rw [show errV 6 = .iface 56 (.int .i64 6) from rfl] at CS
                        go_wp2_with fail
                        refine (unhide CS).mono ?_
                        rintro e wx ⟨rfl, hBx, hgx⟩
                        have K2 := (unhide HKo).to hBx HKS.out.1 HKS.out.2 hgx
                        clear CS HKo hBx hgx
                        go_wp2
                        go_meet
                        case rel => exact ⟨rfl, _, K2⟩
                    · have hx2 : (x == 1) = false := by simp [hx1]
                      go_wp2
                      go_meet
                      case rel => exact ⟨by first | rfl | simp [hx1], s, unhide HKo⟩
                  · have h1I : ¬ (at_ : Int) < (n1 : Int) := by omega
                    go_wp2
                    go_meet
                    case rel => exact ⟨rfl, s, unhide HKo⟩
                case rest =>
                  obtain ⟨rfl, s', K2⟩ := hcut
                  clear HKo hbo hzo
                  have HK2 := hide K2
                  clear K2
                  have hmm := (unhide HK2).len
                  have hm40 := (unhide HK2).m40
                  have hw5 := (unhide HK2).bel
                  have hz5 := hw5.size
                  have hgl := (unhide HK2).glt
                  obtain ⟨wk, hwk⟩ : ∃ wk : World, wk = wc := ⟨_, rfl⟩
                  subst hwk
                  have HDN := hide (rd_own (unhide HK2).done)
                  obtain ⟨b9, f9, o, hA9, hbl9, ho9, y0, y1, y2⟩ := ((hr0.below hw5).more hw5.size).op (k := at_) hg7
                  cases hA9
                  have HOO := hide (fun w' (hb : Below wk.heap.size wk w') => And.intro ((hb.cell (p := ⟨b9, f9 + at_ * 3, none⟩) hbl9).trans y0) (And.intro ((hb.cell (p := ⟨b9, f9 + at_ * 3 + 1, none⟩) hbl9).trans y1) ((hb.cell (p := ⟨b9, f9 + at_ * 3 + 2, none⟩) hbl9).trans y2)))
                  have HKD := Lib.hid (do_keep (unhide HK2).I o)
                  have HKI := Lib.hid ((unhide HK2).I.doo o)
                  have CDO := hide (fun w' (hB : LogB w' g s') => do_any g s' o w' hB (unhide HK2).I.ok)
                  have CBY := hide (fun w' (hB : LogB w' g s') => bytes_any g s' w' hB)
                  unfold DoPost at CDO
                  have HSH := Lib.hid hmm
                  have hone := oneH s'.h
                  have hcap1 : (0 + m) * 24 ≤ 140737488355328 := by omega
                  obtain ⟨o1, o2, o3⟩ := o
                  unfold HOp.val at CDO
                  simp only at y0 y1 y2
                  clear ho9 hmm
                  go_wp2_with (first
                    | (at_builtin; (refine wpList_app rfl (.tmp 138) (.tmp 139) _ rfl wk.heap.size slt_op (n := 0) (xs := []) (m := m) (news := cellsH s'.h) rfl (World.ownsRow_nil _ _ _ _) rfl (unhide HDN) hone hcap1 (Nat.le_refl _) ?_; intro v5 w5 hown5 hg5 hb5 hat5 hne5; simp only [Nat.zero_add, List.nil_append] at hown5; obtain ⟨A5, c5, rfl⟩ := own_slice hown5; obtain ⟨z0, z1, z2⟩ := unhide HOO w5 hb5; have hz6 := hb5.size; clear hg5 hat5 hne5 y0 y1 y2))
                    | (at_builtin; (refine wpList_app rfl (.tmp 141) (.tmp 146) _ rfl wk.heap.size slt_op (n := m) (xs := cellsH s'.h) (m := 1) (news := cellsH [⟨o1, o2, o3⟩]) rfl (own_alloc hown5 _) rfl (rd_new' _ _ (cellsH [⟨o1, o2, o3⟩]) (by simp) rfl) (oneH _) (by omega) (by simp; omega) ?_; intro v6 w6 hown6 hg6 hb6 hat6 hne6; obtain ⟨A6, c6, rfl⟩ := own_slice hown6; clear hg6 hat6 hne6)))
                  rw [← cellsH_append] at hown6
                  have hb6w : Below wk.heap.size wk w6 := ((hb5.trans ((Below.refl _ _).alloc hz6 _)).trans (hb6.mono (Nat.le_refl _)))
                  have K6 := (unhide HK2).below hb6w
                  have hz7 := hb6w.size
                  have CR := hide (rright_any A6 (m + 1) c6 (s'.h ++ [⟨o1, o2, o3⟩]) w6 (rd_own hown6) (by omega))
                  have HK6 := hide K6
                  clear hown5 hb5 hb6 K6 z0 z1 z2 HDN hone hcap1 HK2 hz6
                  go_wp2_with fail
                  refine (unhide CR).mono ?_
                  rintro e w7 ⟨rfl, hb7⟩
                  have hown7 := own_below hown6 hb7 (Nat.le_refl _)
                  have HK7 := hide ((unhide HK6).below hb7)
                  have hb7w := hb6w.trans (hb7.mono hz7)
                  have CBY7 := hide (unhide CBY w7 (unhide HK7).log)
                  have HDO7 := unhide HOO w7 hb7w
                  obtain ⟨z0, z1, z2⟩ := HDO7
                  clear hown6 hb7 HK6 CR CBY hb6w hz7
                  go_wp2_with fail
                  refine (unhide CBY7).mono ?_
                  rintro e w8 ⟨rfl, rfl⟩
                  have CDO8 := hide (unhide CDO w8 (unhide HK7).log)
                  clear CBY7 CDO
                  generalize doF s' ⟨o1, o2, o3⟩ = y at *
                  obtain ⟨yc, y2⟩ := y
                  obtain ⟨ec, hec⟩ : ∃ ec, ec = (checkF (s'.h ++ [⟨o1, o2, o3⟩])).2 := ⟨_, rfl⟩
                  rw [← hec] at HKD ⊢
                  have HEC := Lib.hid hec
                  clear hec
                  obtain ⟨nb, hnb⟩ : ∃ nb, s'.b.length = nb := ⟨_, rfl⟩
                  rw [hnb] at HKD ⊢
                  have hnb1 : nb ≤ 1000000 := by rw [← hnb]; exact (unhide HK7).I.ok.b
                  clear hnb
                  have hz8 : w.heap.size ≤ w8.heap.size := (unhide HK7).bel.size
                  go_wp2_with fail
                  refine (unhide CDO8).mono ?_
                  rintro e w9 ⟨rfl, hB9, hg9⟩
                  have hown9 := own_but hown7 hg9 (by omega)
                  have hbw9 : Below w.heap.size w w9 := (unhide HK7).bel.trans (below_grown hg9 (unhide HK7).wg (unhide HK7).bel.size)
                  have hdn9 := own_but (unhide HK7).done hg9 (Nat.lt_succ_self _)
                  have hmk9 := own_but (unhide HK7).marks hg9 (Nat.lt_succ_self _)
                  have CE1 := hide (error_any yc 6 w9 (unhide HE w9 hbw9).1)
                  have CE2 := hide (fun w' (hb : Below w.heap.size w w') => error_any yc ec w' (unhide HE w' hb).1)
                  clear CDO8 hown7 z0 z1 z2
                  rcases HKD.out with ⟨rfl, j2, j3, j4, j5⟩ | ⟨j1, j2, j3⟩
                  · try simp only at j3 j4 j5
                    subst j2
                    rw [errV_zero] at CE1 ⊢
                    simp only [errV_zero] at CE2
                    rw [decide_eq_false (show ¬ (0 : Int) = 6 by decide)] at CE1
                    simp only [decide_true] at CE2
                    clear HEC
                    go_wp2_with fail
                    refine (unhide CE1).mono ?_
                    rintro e w10 ⟨rfl, hb10⟩
                    have hbw10 := hbw9.trans (hb10.mono hbw9.size)
                    have CE3 := hide (unhide CE2 w10 hbw10)
                    have hB10 := hB9.below hb10 (Nat.le_refl _)
                    have hown10 := own_below hown9 hb10 (Nat.le_refl _)
                    have hmk10 := own_below hmk9 hb10 (Nat.le_refl _)
                    clear CE1 CE2 hB9 hown9 hmk9 hdn9 hb10
                    go_wp2_with fail
                    refine (unhide CE3).mono ?_
                    rintro e w11 ⟨rfl, hb11⟩
                    have hbw11 := hbw10.trans (hb11.mono hbw10.size)
                    have hB11 := hB10.below hb11 (Nat.le_refl _)
                    have hown11 := own_below hown10 hb11 (Nat.le_refl _)
                    have hmk11 := own_below hmk10 hb11 (Nat.le_refl _)
                    have hz11 : g + 1 ≤ w11.heap.size := hB11.lt
                    have CB11 := hide (fun w' (hB : LogB w' g y2) => bytes_any g y2 w' hB)
                    have CB12 := hide (unhide CB11 w11 hB11)
                    obtain ⟨nc, hnc⟩ : ∃ nc, y2.b.length = nc := ⟨_, rfl⟩
                    rw [hnc] at CB12
                    simp only [hnc] at CB11
                    have hnc1 : nc ≤ 1000000 := by rw [← hnc]; exact HKI.out.ok.b
                    rw [hnc] at j4 j5
                    have hnI : ¬ (nc : Int) < (nb : Int) + 2 := by omega
                    have HJ5 := Lib.hid j5
                    have HJ3 := Lib.hid j3
                    clear CE3 hB10 hown10 hmk10 hb11 hnc j4 j5
                    go_wp2_with fail
                    refine (unhide CB12).mono ?_
                    rintro e w12 ⟨rfl, rfl⟩
                    clear CB12
                    go_wp2_with fail
                    refine (unhide CB11 w12 hB11).mono ?_
                    rintro e w13 ⟨rfl, rfl⟩
                    clear CB11
                    go_wp2_with (at_builtin; (refine wpList_app rfl (.tmp 179) (.tmp 182) _ rfl (g + 1) slt_int (n := m + 1) (xs := cellsI (marksL s'.h)) (m := 1) (news := cellsI [(nc : Int)]) rfl (own_alloc hmk11 _) rfl (rd_new' _ _ (cellsI [(nc : Int)]) (by simp) rfl) (oneI _) (by omega) (by simp; omega) ?_; intro v14 w14 hown14 hg14 hb14 hat14 hne14; obtain ⟨B14, d14, rfl⟩ := own_slice hown14; clear hat14 hne14))
                    have K14 : KS w g w14 y2 A6 B14 (m + 1) c6 d14 := by
                      have hba : Below w13.heap.size w13 (w13.alloc (.cells (cellsI [(nc : Int)]).toArray 3)) := (Below.refl _ _).alloc (Nat.le_refl _) _
                      refine KS.push (hB11.below hba (Nat.le_refl _)) HKI.out (by rw [HJ3.out, List.length_append, HSH.out]; rfl) (by rw [HJ3.out]; exact own_mono (own_alloc hown11 _) (by omega)) (own_alloc hmk11 _) hg14 ?_ (hbw11.trans (hba.mono hbw11.size)) hb14 hgw
                      have e : cellsI (marksL s'.h) ++ cellsI [(nc : Int)] = cellsI (marksL y2.h) := by
                        rw [HJ3.out, marks_snoc, HJ5.out]; simp [cellsI]
                      rw [← e]
                      exact hown14
                    have HK14 := hide K14
                    have CA14 := hide (all_any g y2 w14 K14.log (okH_len K14.I.I.ok))
                    have hy2 : y2.h.length = m + 1 := K14.len
                    rw [hy2] at CA14
                    clear hy2 K14 hown14 hg14 hb14 hmk11 hown11 hB11 hbw10 hbw9
                    go_wp2_with fail
                    refine (unhide CA14).mono ?_
                    rintro e w15 ⟨v15, rfl, ho15, hb15⟩
                    obtain ⟨A15, c15, rfl⟩ := own_slice ho15
                    have HK15 := hide ((unhide HK14).below hb15)
                    have CO15 := hide (ops_any A15 A6 (m + 1) (m + 1) c15 c6 y2.h y2.h w15 (rd_own ho15) (rd_own (unhide HK15).done) (by omega))
                    rw [decide_eq_true (show y2.h = y2.h from rfl)] at CO15
                    clear HK14 CA14 ho15 hb15
                    go_wp2_with fail
                    refine (unhide CO15).mono ?_
                    rintro e w16 ⟨rfl, hb16⟩
                    have HK16 := hide ((unhide HK15).below hb16)
                    clear CO15 HK15 hb16
                    go_wp2
                    go_roundw
                    case rel => exact ⟨k + 1, at_ + 1, y2, A6, B14, m + 1, c6, d14, by omega, by omega, rfl, rfl, by go_num, by go_num, unhide HK16⟩
                    case measure => simp [intOf]; omega
                  · try simp only at j2 j3
                    have hdd : (decide (yc = 6) = false ∧ decide (yc = ec) = true) ∨ decide (yc = 6) = true := by
                      by_cases h6 : yc = 6
                      · exact .inr (decide_eq_true h6)
                      · rcases j2 with j2 | j2
                        · exact absurd j2 h6
                        · exact .inl ⟨decide_eq_false h6, decide_eq_true (by rw [j2, HEC.out])⟩
                    have HDD := Lib.hid hdd
                    rw [ne_errV j1] at CE1 ⊢
                    simp only [ne_errV j1] at CE2
                    have HJ3 := Lib.hid j3
                    clear hdd j1 j2 j3 HEC HKD
                    generalize decide (yc = 6) = q6 at *
                    generalize decide (yc = ec) = qe at *
                    go_wp2_with fail
                    refine (unhide CE1).mono ?_
                    rintro e w10 ⟨rfl, hb10⟩
                    have hbw10 := hbw9.trans (hb10.mono hbw9.size)
                    have CE3 := hide (unhide CE2 w10 hbw10)
                    clear CE1 CE2
                    go_wp2_with fail
                    refine (unhide CE3).mono ?_
                    rintro e w11 ⟨rfl, hb11⟩
                    have K11 : KS w g w11 y2 A B m c d := (((unhide HK7).to hB9 HKI.out HJ3.out hg9).below hb10).below hb11
                    have HK11 := hide K11
                    have CA11 := hide (all_any g y2 w11 K11.log (okH_len K11.I.I.ok))
                    have hy2 : y2.h.length = m := K11.len
                    rw [hy2] at CA11
                    clear CE3 hy2 K11 hB9 hb10 hb11 hown9 hdn9 hmk9 hbw9 hbw10 HK7 hg9
                    have HRT : ∀ q6' qe', q6' = q6 → qe' = qe → (q6 = true ∨ (q6 = false ∧ qe = true)) := fun _ _ _ _ => by
                      rcases HDD.out with ⟨h1, h2⟩ | h1
                      · exact .inr ⟨h1, h2⟩
                      · exact .inl h1
                    have HRT := HRT q6 qe rfl rfl
                    clear HDD
                    rcases HRT with rfl | ⟨rfl, rfl⟩
                    all_goals
                      go_wp2_with fail
                      refine (unhide CA11).mono ?_
                      rintro e w15 ⟨v15, rfl, ho15, hb15⟩
                      obtain ⟨A15, c15, rfl⟩ := own_slice ho15
                      have HK15 := hide ((unhide HK11).below hb15)
                      have CO15 := hide (ops_any A15 A m m c15 c y2.h y2.h w15 (rd_own ho15) (rd_own (unhide HK15).done) (by omega))
                      rw [decide_eq_true (show y2.h = y2.h from rfl)] at CO15
                      clear HK11 CA11 ho15 hb15
                      go_wp2_with fail
                      refine (unhide CO15).mono ?_
                      rintro e w16 ⟨rfl, hb16⟩
                      have HK16 := hide ((unhide HK15).below hb16)
                      clear CO15 HK15 hb16
                      go_wp2
                      go_roundw
                      case rel => exact ⟨k + 1, at_ + 1, y2, A, B, m, c, d, by omega, by omega, rfl, rfl, by go_num, by go_num, unhide HK16⟩
                      case measure => simp [intOf]; omega
              · by_cases hk : k < 14
                · have hg8 : (k : Int) < 14 := by omega
                  have hg9 : ¬ (at_ : Int) < (n0 : Int) := by omega
                  go_wp2
                  go_meet
                  case rel => exact ⟨at_, s, A, B, m, c, d, hat, rfl, rfl, rfl, K⟩
                · have hg8 : ¬ (k : Int) < 14 := by omega
                  go_wp2
                  go_meet
                  case rel => exact ⟨at_, s, A, B, m, c, d, hat, rfl, rfl, rfl, K⟩
        case rest =>
          clear HK2 hat hm40
          obtain ⟨at_, s, A, B, m, c, d, hat, rfl, rfl, rfl, K⟩ := hcut
          have hm40 := K.m40
          obtain ⟨wo, hwo⟩ : ∃ wo : World, wo = wc := ⟨_, rfl⟩
          subst hwo
          have HKo := hide K
          have hbo := K.bel
          have hzo := hbo.size
          clear K
          go_upto_if 192 with fail
          go_cut [27] (fun s27 wx => ∃ kp : Int, s27 = .int .i64 kp ∧ wx = wo)
          case first =>
            as_aux_lemma =>
              by_cases hf : r < n3
              · obtain ⟨b2, f2, x, hA, hbl, hx, q1⟩ := ((hr3.below hbo).more hbo.size).int (k := r) hf
                cases hA
                have hfI : (r : Int) < (n3 : Int) := by omega
                clear hx hbl
                go_wp2
                go_meet
                case rel => exact ⟨x, rfl, rfl⟩
              · have hfI : ¬ (r : Int) < (n3 : Int) := by omega
                go_wp2
                go_meet
                case rel => exact ⟨0, rfl, rfl⟩
          case rest =>
            obtain ⟨kp, rfl, rfl⟩ := hcut
            have hhi := high_is (unhide HKo).I kp
            have hkb := (unhide HKo).I.ok.b
            have CBY := hide (bytes_any g s _ (unhide HKo).log)
            have CSF := hide (safe_any g s _ (unhide HKo).log)
            have CCR := hide (crash_any g s kp _ (unhide HKo).log (unhide HKo).I.I (unhide HKo).I.ok (unhide HE _ hbo).2 (by omega))
            obtain ⟨nb, hnb⟩ : ∃ nb, s.b.length = nb := ⟨_, rfl⟩
            obtain ⟨ns, hns⟩ : ∃ ns, s.safe = ns := ⟨_, rfl⟩
            obtain ⟨hi, hhi0⟩ : ∃ hi, keptN s kp = hi := ⟨_, rfl⟩
            rw [hnb, hns, hhi0] at hhi
            rw [hnb] at CBY hkb
            rw [hns] at CSF
            obtain ⟨hh1, hh2⟩ := hhi
            have HH1 := Lib.hid hh1
            have HHI := Lib.hid hhi0
            have HNB := Lib.hid (And.intro hnb hns)
            clear hh1 hhi0 hnb hns
            go_wp2_with fail
            refine (unhide CBY).mono ?_
            rintro e w2 ⟨rfl, rfl⟩
            go_wp2_with fail
            refine (unhide CSF).mono ?_
            rintro e w3 ⟨rfl, rfl⟩
            clear CBY CSF
            go_wp2_with fail
            refine (unhide CCR).mono ?_
            rintro e w4 ⟨rfl, hB4, hg4⟩
            have HK4 := hide (And.intro (unhide HKo) (And.intro hB4 hg4))
            have hb4 := hbo.trans (below_grown hg4 hgw hzo)
            have hz4 := hb4.size
            have hmk4 := own_but (unhide HKo).marks hg4 (Nat.lt_succ_self _)
            have HMK := hide (rd_own hmk4)
            have hdc := own_capK (unhide HKo).done
            have hmc := own_capK (unhide HKo).marks
            have HLN := Lib.hid (unhide HKo).len
            clear CCR HKo hB4 hg4 hmk4 hbo hzo
            have HD0 : Hid ((nb : Int) - (ns : Int) = ((nb - ns : Nat) : Int)) := Lib.hid (by omega)
            have H3 : Hid ((0 < kp ∧ kp < (nb : Int) - (ns : Int) → (hi : Int) = ns + kp) ∧ (0 < kp ∧ (nb : Int) - (ns : Int) ≤ kp → hi = nb) ∧ (kp ≤ 0 → hi = ns)) := Lib.hid (by
              have := HH1.out
              unfold highI at this
              refine ⟨fun h => ?_, fun h => ?_, fun h => ?_⟩
              · rw [if_pos h] at this; exact this.symm
              · rw [if_neg (fun h' => by omega), if_pos h.1] at this; omega
              · rw [if_neg (fun h' => by omega), if_neg (by omega)] at this; omega)
            go_upto_region 49 with fail
            go_cut [213] (fun s213 wx => ∃ q : Bool, s213 = .bool q ∧ Hid (q = true ↔ (0 < kp ∧ kp < (nb : Int) - (ns : Int))) ∧ wx = w4)
            case first =>
              as_aux_lemma =>
                by_cases h0 : 0 < kp
                · by_cases h1 : kp < (nb : Int) - (ns : Int)
                  · have HX := Lib.hid (And.intro h0 h1)
                    go_wp2
                    go_meet
                    case rel => exact ⟨true, rfl, Lib.hid ⟨fun _ => HX.out, fun _ => rfl⟩, rfl⟩
                  · have HX : Hid ((nb : Int) - (ns : Int) ≤ kp) := Lib.hid (by omega)
                    go_wp2
                    go_meet
                    case rel => exact ⟨false, rfl, Lib.hid ⟨fun h => (by cases h), fun h => absurd h.2 (by have := HX.out; omega)⟩, rfl⟩
                · have HX : Hid (kp ≤ 0) := Lib.hid (by omega)
                  go_wp2
                  go_meet
                  case rel => exact ⟨false, rfl, Lib.hid ⟨fun h => (by cases h), fun h => absurd h.1 (by have := HX.out; omega)⟩, rfl⟩
            case rest =>
            obtain ⟨q, rfl, HQ, hwq⟩ := hcut
            subst hwq
            obtain ⟨wq, hwq⟩ : ∃ wq : World, wq = wc := ⟨_, rfl⟩
            subst hwq
            go_upto_if 213 with fail
            go_cut [30] (fun s30 wx => s30 = .int .i64 (hi : Int) ∧ wx = wq)
            case first =>
              as_aux_lemma =>
                cases q
                · by_cases h0 : 0 < kp
                  · have G3 := Lib.hid (H3.out.2.1 ⟨h0, (by
                      by_cases h1 : kp < (nb : Int) - (ns : Int)
                      · have := HQ.out.2 ⟨h0, h1⟩; cases this
                      · omega)⟩)
                    go_wp2
                    go_meet
                    case rel => exact ⟨by rw [G3.out], rfl⟩
                  · have G3 := Lib.hid (H3.out.2.2 (by omega))
                    go_wp2
                    go_meet
                    case rel => exact ⟨by rw [G3.out], rfl⟩
                · have hq := HQ.out.1 rfl
                  have G3 := Lib.hid (H3.out.1 hq)
                  obtain ⟨q1, q2⟩ := hq
                  have hks : (ns : Int) + kp ≤ 1000000 := by omega
                  go_wp2
                  go_meet
                  case rel => exact ⟨by rw [G3.out], rfl⟩
            case rest =>
              obtain ⟨rfl, hwx⟩ := hcut
              subst hwx
              obtain ⟨w5, hw5⟩ : ∃ w5 : World, w5 = wc := ⟨_, rfl⟩
              subst hw5
              clear HQ H3 HD0 HH1 hh2 hkb
              go_wp2
              go_loopw [31, 32] (fun s31 s32 wr => ∃ i : Nat, i ≤ m + 1 ∧ s31 = .int .i64 (leftN hi s.h i : Int) ∧ s32 = .int .i64 i ∧ Below w5.heap.size w5 wr) (fun _ s32 _ => m + 1 - (intOf s32).toNat)
              case atStart => exact ⟨0, by omega, by rw [left_zero]; rfl, rfl, Below.refl _ _⟩
              case round =>
                obtain ⟨i, hi1, rfl, rfl, hbr⟩ := hrel
                by_cases hlt : i < m + 1
                · obtain ⟨b2, f2, x, hA, hbl, hx, q1⟩ := (((unhide HMK).below hbr).more hbr.size).int (k := i) hlt
                  cases hA
                  have hxe : x = ((flatL (s.h.take i)).length : Int) := by rw [marks_at (by rw [HLN.out]; omega)] at hx; exact (Option.some.inj hx).symm
                  obtain ⟨fl, hfl⟩ : ∃ fl, (flatL (s.h.take i)).length = fl := ⟨_, rfl⟩
                  rw [hfl] at hxe
                  subst hxe
                  have hltI : (i : Int) < ((m + 1 : Nat) : Int) := by omega
                  have hltI2 : (i : Int) < (m : Int) + 1 := by omega
                  by_cases hle : fl ≤ hi
                  · have HE1 := Lib.hid (left_in (k := hi) (h := s.h) (i := i) (by rw [HLN.out]; omega) (by rw [hfl]; exact hle))
                    have hleI : (fl : Int) ≤ (hi : Int) := by omega
                    clear hfl hx hbl
                    go_wp2
                    go_roundw
                    case rel => exact ⟨i + 1, by omega, by rw [HE1.out], by go_num, hbr⟩
                    case measure => simp [intOf]; omega
                  · have HE1 := Lib.hid (left_out (k := hi) (h := s.h) (i := i) (by rw [HLN.out]; omega) (by rw [hfl]; exact hle))
                    have hleI : ¬ (fl : Int) ≤ (hi : Int) := by omega
                    clear hfl hx hbl
                    go_wp2
                    go_roundw
                    case rel => exact ⟨i + 1, by omega, by rw [HE1.out], by go_num, hbr⟩
                    case measure => simp [intOf]; omega
                · have he : i = m + 1 := by omega
                  have hj : leftN hi s.h i = cntL hi s.h := by rw [he, ← HLN.out]; exact left_end hi s.h
                  have hjm : cntL hi s.h ≤ m := by rw [← HLN.out]; exact cntL_le _ _
                  rw [hj, he]
                  obtain ⟨j, hj0⟩ : ∃ j, cntL hi s.h = j := ⟨_, rfl⟩
                  rw [hj0] at hjm ⊢
                  have hge : ¬ ((m + 1 : Nat) : Int) < ((m + 1 : Nat) : Int) := by omega
                  have K5 := ((unhide HK4).1.crash (keep := kp) (j := j) (by rw [HHI.out]; exact hj0) (unhide HK4).2.1 (unhide HK4).2.2).below hbr
                  obtain ⟨l1, l2⟩ := crash_len (unhide HK4).1.I.I kp
                  clear hj he hlt hi1 HK4 HMK HNB hb4 hz4
                  generalize crashF s kp = s5 at *
                  obtain ⟨fl, hfl⟩ : ∃ fl, (flatL s5.h).length = fl := ⟨_, rfl⟩
                  rw [hfl] at l1 l2
                  obtain ⟨bm, fm, x, hA, hbl, hx, q1⟩ := (rd_own K5.marks).int (k := j) (by omega)
                  cases hA
                  have hxe : x = (fl : Int) := by
                    rw [marks_at (by rw [K5.len]; exact Nat.le_refl _), List.take_of_length_le (by rw [K5.len]; exact Nat.le_refl _), hfl] at hx
                    exact (Option.some.inj hx).symm
                  subst hxe
                  have HMR := hide (fun w' (hb : Below wr.heap.size wr w') => (hb.cell (p := ⟨bm, fm + j, none⟩) hbl).trans q1)
                  have hjc : j ≤ c := by omega
                  have hjcI : (j : Int) ≤ (c : Int) := by omega
                  have hjd : j + 1 ≤ d := by omega
                  have hjdI : (j : Int) + 1 ≤ (d : Int) := by omega
                  have hj40 : j ≤ 40 := K5.m40
                  have CV := hide ((values_any A j c s5.h wr (rd_own K5.done) (by omega)).1 K5.I.I.ok)
                  have HK5 := hide K5
                  clear hx hbl q1 hfl K5 hj0 HHI HLN
                  go_wp2_with fail
                  refine (unhide CV).mono ?_
                  rintro e w6 ⟨v6, rfl, ho6, hb6⟩
                  obtain ⟨A6, c6, rfl⟩ := own_slice ho6
                  have K6 := (unhide HK5).below hb6
                  have hdn6 := rd_own K6.done
                  have hvv6 := rd_own ho6
                  have HK6 := hide (fun w' (hb : Below w6.heap.size w6 w') => K6.below hb)
                  have CA6 := hide (fun w' (hb : Below w6.heap.size w6 w') => show Calls Tryd.prog 11 #[.pointer (some ⟨g, 0, none⟩)] w' fun e w'' => ∃ v, e = .returned v ∧ w''.ownsRow w'.heap.size 28 3 v j (cellsH s5.h) ∧ Below w'.heap.size w' w'' from by
                    have := all_any g s5 w' (K6.below hb).log (okH_len K6.I.I.ok)
                    rwa [K6.len] at this)
                  have CO6 := hide (fun w' (hb : Below w6.heap.size w6 w') (Ah : Option Addr) (ch : Nat) (hr : Rd w' w'.heap.size 3 Ah j (cellsH s5.h)) => show Calls Tryd.prog 18 #[.slice Ah j ch, .slice A j c] w' fun e w'' => e = .returned (.bool true) ∧ Below w'.heap.size w' w'' from by
                    have := ops_any Ah A j j ch c s5.h s5.h w' hr ((hdn6.below hb).more hb.size) (by omega)
                    rwa [decide_eq_true (show s5.h = s5.h from rfl)] at this)
                  have CV6 := hide (fun w' (hb : Below w6.heap.size w6 w') => values_of g s5 w' (K6.below hb).log K6.I.I)
                  have CI6 := hide (fun w' (hb : Below w6.heap.size w6 w') (Ah : Option Addr) (ch : Nat) (hr : Rd w' w'.heap.size 1 Ah 6 (cellsI (playF s5.h).1)) => show Calls Tryd.prog 20 #[.slice Ah 6 ch, .slice A6 6 c6] w' fun e w'' => e = .returned (.bool true) ∧ Below w'.heap.size w' w'' from by
                    have := ints_any Ah A6 6 6 ch c6 (playF s5.h).1 (playF s5.h).1 w' hr ((hvv6.below hb).more hb.size) (by omega)
                    rwa [decide_eq_true (show (playF s5.h).1 = (playF s5.h).1 from rfl)] at this)
                  have CB6 := hide (fun w' (hb : Below w6.heap.size w6 w') => show Calls Tryd.prog 10 #[.pointer (some ⟨g, 0, none⟩)] w' fun e w'' => e = .returned (.int .i64 fl) ∧ w'' = w' from by
                    have := bytes_any g s5 w' (K6.below hb).log
                    rwa [l1] at this)
                  have CS6 := hide (fun w' (hb : Below w6.heap.size w6 w') => show Calls Tryd.prog 16 #[.pointer (some ⟨g, 0, none⟩)] w' fun e w'' => e = .returned (.int .i64 fl) ∧ w'' = w' from by
                    have := safe_any g s5 w' (K6.below hb).log
                    rwa [l2] at this)
                  have KEEP := hide (fun w' (hb : Below w6.heap.size w6 w') => unhide HMR w' (hb6.trans (hb.mono hb6.size)))
                  have hd0 : Below w6.heap.size w6 w6.drew := (Below.refl _ _).drew
                  have hc6 : w6.drew.cell? ⟨bm, fm + j, none⟩ = some (.int .i64 fl) := unhide KEEP _ hd0
                  have hjlt : (j : Int) < (j : Int) + 1 := by omega
                  clear CV ho6 hb6 K6 hdn6 hvv6 HMR l1 l2 HK5 hbr
                  generalize (playF s5.h).1 = PV at *
                  go_wp2_with fail
                  go_region_held3 (fun w' => w'.cell? ⟨bm, fm + j, none⟩ = some (.int .i64 fl)) (first | exact hc6 | exact hc7 | exact hc8 | exact hc9 | exact hc10 | go_keep)
                    (first
                      | (go_at_call 11; refine (unhide CA6 _ hd0).mono ?_; rintro e w7 ⟨v7, rfl, ho7, hb7⟩; obtain ⟨A17, c17, rfl⟩ := own_slice ho7; have hd7 := hd0.trans (hb7.mono hd0.size); have hc7 := unhide KEEP _ hd7; have CO7 := hide (unhide CO6 w7 hd7 A17 c17 (rd_own ho7)))
                      | (go_at_call 18; with_reducible refine (unhide CO7).mono ?_; rintro e w8 ⟨rfl, hb8⟩; have hd8 := hd7.trans (hb8.mono hd7.size); have hc8 := unhide KEEP _ hd8)
                      | (go_at_call 12; refine (unhide CV6 _ hd8).mono ?_; rintro e w9 ⟨v9, rfl, ho9, hb9⟩; obtain ⟨A19, c19, rfl⟩ := own_slice ho9; have hd9 := hd8.trans (hb9.mono hd8.size); have hc9 := unhide KEEP _ hd9; have CI9 := hide (unhide CI6 w9 hd9 A19 c19 (rd_own ho9)))
                      | (go_at_call 20; with_reducible refine (unhide CI9).mono ?_; rintro e w10 ⟨rfl, hb10⟩; have hd10 := hd9.trans (hb10.mono hd9.size); have hc10 := unhide KEEP _ hd10)
                      | (go_at_call 10; refine (unhide CB6 _ (by first | exact hd10 | exact hd10.drew)).mono ?_; rintro e w11 ⟨rfl, rfl⟩)
                      | (go_at_call 16; refine (unhide CS6 _ (by first | exact hd10 | exact hd10.drew)).mono ?_; rintro e w12 ⟨rfl, rfl⟩))
                  go_wp2
                  go_roundw
                  case rel => exact ⟨r + 1, at_, s5, A, _, j, c, d, by omega, hat, rfl, by go_num, rfl, by go_num, unhide HK6 _ (by first | exact hd10 | exact hd10.drew)⟩
                  case measure => simp [intOf]; omega
    · have hrx : (r ≤ n2 ∧ ¬ r < 4) ∨ ¬ r ≤ n2 := by omega
      have hbo := K.bel
      rcases hrx with ⟨h1, h2⟩ | h1
      · have h1I : (r : Int) ≤ (n2 : Int) := by omega
        have h2I : ¬ (r : Int) < 4 := by omega
        go_wp2
        go_ret
        exact ⟨rfl, hbo⟩
      · have h1I : ¬ (r : Int) ≤ (n2 : Int) := by omega
        go_wp2
        go_ret
        exact ⟨rfl, hbo⟩
theorem bytes_ints : Tryd.prog.bytesOf 3 = 8 := by kernel_rfl
theorem bytes_intsr : Tryd.prog.bytesOf 3 = 8 := by kernel_rfl
theorem bytes_ops : Tryd.prog.bytesOf 28 = 24 := by kernel_rfl

/-! ### The row. -/
set_option maxRecDepth 100000 in
theorem lifted (os : Os) (started : os.Started) (H : Type) (enc : TypeId × Value → H) :
    ReturnsInHanded {} Tryd.checked os 5 .any (fun w args => (Rows.logKeepsSpec.pre enc Tryd.prog Tryd.f5 [] false w args ∧ laidMetH Tryd.prog dLaid3 w) ∧ sizedMet enc Tryd.prog Tryd.f5 (OpenSpec.ofChange Rows.logKeepsSpec) false w args) (Rows.logKeepsSpec.post enc Tryd.prog Tryd.f5 false true false false) := by
  refine returns_and_shaped (C := Tryd.checked) (X := fun w _ => laidMetH Tryd.prog dLaid3 w) (fun _ _ _ hh h => h.of_heap hh) dOwn started (by kernel_rfl) Tryd.func5
    (ChangeSpec.witness_at (enc := enc) (C := Tryd.checked) (os := os) (X := fun w _ => laidMetH Tryd.prog dLaid3 w) false (laidWorld3 os) #[.slice none 0 0, .slice none 0 0, .slice none 0 0, .slice none 0 0] 8 rfl (by kernel_rfl) (by kernel_rfl) (by kernel_rfl) (by kernel_rfl) (by kernel_rfl) (laidWorld3_met os _)) ?_
  intro W base args ds gs before hval0 hW hcnd hsz0 hL hsh _
  have hval : ∀ (j : Nat) t v, Tryd.f5.params[j]? = some t → args[j]? = some v → Value.okWide Tryd.prog W .any base t v := hval0
  have hW' := hW
  obtain ⟨p, q, hA0, hV, rfl, hfz, hnd⟩ := hW
  have hA : DataW.TrodAll enc Tryd.prog W 0 (fun _ => true) true Tryd.f5.params.toList args.toList ds p := hA0
  have hsz : (DataW.weightsEach Tryd.prog (Tryd.f5.params.toList ++ Rows.logKeepsSpec.plain.varTypes Tryd.prog) (ds ++ gs)).all (· ≤ reachBytes) = true := hsz0
  rw [Tryd.params5] at hA hval hsz
  obtain ⟨v0, vs0, d0, ds0, p0, q0, hargs, rfl, rfl, h0, r0⟩ := trodAll_cons hA
  obtain ⟨v1, vs1, d1, ds1, p1, q1, rfl, rfl, rfl, h1, r1⟩ := trodAll_cons r0
  obtain ⟨v2, vs2, d2, ds2, p2, q2, rfl, rfl, rfl, h2, r2⟩ := trodAll_cons r1
  obtain ⟨v3, vs3, d3, ds3, p3, q3, rfl, rfl, rfl, h3, r3⟩ := trodAll_cons r2
  obtain ⟨rfl, rfl, rfl⟩ := trodAll_nil r3
  obtain rfl : args = #[v0, v1, v2, v3] := by cases args; simp_all
  obtain ⟨rfl, rfl⟩ := trodVars_none hV
  simp only [List.append_nil] at hW'
  have hk0 := h0
  have hlt0 : ∀ x ∈ p0, x.block < W.heap.size := fun x hx => hW'.lt x (by simp [hx])
  obtain ⟨A0, n0, c0, l0, rfl, rd0, bd0⟩ := open_ops Tryd.underlying31 Tryd.underlying28 Tryd.underlying3 rfl rfl rfl (by kernel_rfl) (by kernel_rfl) (hval 0 31 v0 rfl rfl) h0 (fun e s he => by have := sized_slice hsz (j := 0) (t := 31) (e := 28) rfl (congrArg some he) Tryd.underlying31; rwa [bytes_ops] at this)
  have hk1 := h1
  have hlt1 : ∀ x ∈ p1, x.block < W.heap.size := fun x hx => hW'.lt x (by simp [hx])
  obtain ⟨A1, n1, c1, l1, rfl, rd1, bd1⟩ := open_is Tryd.underlying34 Tryd.underlying3 (by kernel_rfl) (hval 1 34 v1 rfl rfl) h1 (fun e s he => by have := sized_slice hsz (j := 1) (t := 34) (e := 3) rfl (congrArg some he) Tryd.underlying34; rwa [bytes_ints] at this)
  have hk2 := h2
  have hlt2 : ∀ x ∈ p2, x.block < W.heap.size := fun x hx => hW'.lt x (by simp [hx])
  obtain ⟨A2, n2, c2, l2, rfl, rd2, bd2, rg2⟩ := open_isr Tryd.underlying34 Tryd.underlying3 (by kernel_rfl) (hval 2 34 v2 rfl rfl) h2 (fun e s he => by have := sized_slice hsz (j := 2) (t := 34) (e := 3) rfl (congrArg some he) Tryd.underlying34; rwa [bytes_intsr] at this)
  have hk3 := h3
  have hlt3 : ∀ x ∈ p3, x.block < W.heap.size := fun x hx => hW'.lt x (by simp [hx])
  obtain ⟨A3, n3, c3, l3, rfl, rd3, bd3⟩ := open_is Tryd.underlying34 Tryd.underlying3 (by kernel_rfl) (hval 3 34 v3 rfl rfl) h3 (fun e s he => by have := sized_slice hsz (j := 3) (t := 34) (e := 3) rfl (congrArg some he) Tryd.underlying34; rwa [bytes_ints] at this)
  clear hA0 hval0
  refine (walk A0 n0 c0 l0 A1 n1 c1 l1 A2 n2 c2 l2 A3 n3 c3 l3 W (et_of_laid3 hL) (mx_of_shaped hsh) rd0 bd0 rd1 bd1 rd2 bd2 rg2 rd3 bd3).mono fun e W' ⟨he, hg⟩ => ?_
  subst he
  exact ⟨_, rfl, post_slices (pa := _) (pv := []) hW' hg (by simp) (fun _ _ _ => (trodAll_cons_mk (shut_bool Tryd.underlying4 _) trodAll_mk0)) (trodAll_cons_mk (Below.trod laidOut (by kernel_rfl) (of_decide_eq_true (by kernel_rfl)) hk0 hg hlt0) (trodAll_cons_mk (Below.trod laidOut (by kernel_rfl) (of_decide_eq_true (by kernel_rfl)) hk1 hg hlt1) (trodAll_cons_mk (Below.trod laidOut (by kernel_rfl) (of_decide_eq_true (by kernel_rfl)) hk2 hg hlt2) (trodAll_cons_mk (Below.trod laidOut (by kernel_rfl) (of_decide_eq_true (by kernel_rfl)) hk3 hg hlt3) trodAll_mk0)))) rfl⟩

theorem over : Rows.LogKeepsSaid :=
  OpenClaim.holds_of_wide 5 Tryd.f5 rfl rfl rfl rfl rfl rfl rfl ⟨rfl, rfl, rfl, rfl, rfl⟩ rfl rfl rfl rfl rfl (by kernel_rfl) Tryd.func5 (by kernel_rfl)
    (of_decide_eq_true (by kernel_rfl)) (by unfold Func.isWrapper; first | (rw [if_pos (by decide +kernel)]; kernel_rfl) | (rw [if_neg (by decide +kernel)]; exact ⟨rfl, rfl⟩))
    (fun os started H enc _ => lifted os started H enc)

/-- The statement: the tied card. -/
theorem proved : Rows.LogKeepsCardSaid :=
  Claim7.holds_tied_plain_at .later [] [.data, .handle, .pinned] true _ true
    over (fun _ h => by cases h) (by kernel_rfl) (fun _ h => by cases h) logKeeps_row_tie rfl ⟨rfl, rfl⟩ (by kernel_rfl) rfl
    (fun f fn hf hfn => by
      obtain rfl : f = 5 := Option.some.inj ((show Tryd.prog.funcNamed "locklane/lanelaw3.LogKeeps" = some 5 by kernel_rfl).symm.trans hf) |>.symm
      obtain rfl : fn = Tryd.f5 := (Option.some.inj (Tryd.func5.symm.trans hfn)).symm
      exact ⟨by kernel_rfl, fun j t ht => by
        rw [Tryd.params5] at ht
        have hm : t ∈ [31, 34, 34] := by have := Array.mem_of_getElem? ht; simpa using this
        have hall : ([31, 34, 34].all fun u => !Tryd.prog.wantsStandIn u) = true := by kernel_rfl
        exact (show Tryd.prog.wantsStandIn t = false by simpa using List.all_eq_true.1 hall t hm)⟩)
    (by kernel_rfl)
#print axioms proved

end Go.Proofs.YtahbaddclacakaaDoor.logKeeps
