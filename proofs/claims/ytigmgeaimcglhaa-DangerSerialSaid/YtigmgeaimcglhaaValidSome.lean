
/-
  CONTRACTS of lanelaw2.by, some, whatever they tell.
-/
import Derived.Test.YtigmgeaimcglhaaValidBy
import Derived.Deep.DeepCutAuto

namespace Go.Proofs.Ytigmgeaimcglhaa
open Go.RowKit

/-- Is an outcome as if deals had come one behind the other? -/
def byE (last : List Int) : Option (List Int) → Bool
  | some la => decide (la = last)
  | none => false
def byB (h seen : List HOp) (last order : List Int) : Bool := byE last (byL h seen order [0, 0, 0, 0, 0, 0])
set_option maxRecDepth 100000 in
set_option maxHeartbeats 4000000 in
theorem lbyB_any (A : Option Addr) (n c : Nat) (h : List HOp) (v1 : Value) (A2 : Option Addr) (n2 c2 : Nat) (seen : List HOp) (b3 : Nat) (last : List Int) (Ao : Option Addr) (no co : Nat) (order : List Int) (w : World) (hr : Rd w w.heap.size 3 A n (cellsH h)) (hm : n ≤ 1000) (hR : ∀ o ∈ h, rightB o = true)
    (h2 : Rd w w.heap.size 3 A2 n2 (cellsH seen)) (hn2 : n2 ≤ 100000) (h3 : Rd w w.heap.size 1 (some ⟨b3, 0, none⟩) 6 (cellsI last)) (ho : Rd w w.heap.size 1 Ao no (cellsI order)) (hno : no ≤ 100000) :
    Calls Try.prog 17 #[.slice A n c, .agg #[v1, .slice A2 n2 c2, .slice (some ⟨b3, 0, none⟩) 6 6], .slice Ao no co] w fun e w' => e = .returned (.bool (byB h seen last order)) ∧ Below w.heap.size w w' := by
  have HL := Lib.hid (And.intro hr.hlen (And.intro h2.hlen ho.ilen))
  have HRB := Lib.hid hR
  have HBY : Hid (byB h seen last order = byE last (byL h seen order [0, 0, 0, 0, 0, 0])) := Lib.hid rfl
  generalize byB h seen last order = R at *
  have hb0 : Below w.heap.size w ((w.alloc (.cells #[v1, .slice A2 n2 c2, .slice (some ⟨b3, 0, none⟩) 6 6] 28)).alloc (.cells #[.int .i64 0, .int .i64 0, .int .i64 0, .int .i64 0, .int .i64 0, .int .i64 0] 3)) := ((Below.refl _ _).alloc (Nat.le_refl _) _).alloc (by simp) _
  have hB0 := (Blk.new w 28 [v1, .slice A2 n2 c2, .slice (some ⟨b3, 0, none⟩) 6 6]).alloc (.cells #[.int .i64 0, .int .i64 0, .int .i64 0, .int .i64 0, .int .i64 0, .int .i64 0] 3)
  have hB1 := Blk.new (w.alloc (.cells #[v1, .slice A2 n2 c2, .slice (some ⟨b3, 0, none⟩) 6 6] 28)) 3 (cellsI [0, 0, 0, 0, 0, 0])
  rw [show (w.alloc (.cells #[v1, .slice A2 n2 c2, .slice (some ⟨b3, 0, none⟩) 6 6] 28)).heap.size = w.heap.size + 1 by simp] at hB1
  have HX := hide (fun w' (hb : Below w.heap.size w w') => And.intro ((hr.below hb).more hb.size) (And.intro ((h2.below hb).more hb.size) (And.intro ((h3.below hb).more hb.size) ((ho.below hb).more hb.size))))
  have hmk := make6
  clear hr h2 h3 ho hR
  go_enter Try.func17, Try.ntmps17
  go_wp2
  clear hmk
  go_loopw [8] (fun s8 wr => ∃ (k : Nat) (la : List Int), k ≤ no ∧ s8 = .int .i64 k ∧ la.length = 6 ∧ Blk wr w.heap.size 28 [v1, .slice A2 n2 c2, .slice (some ⟨b3, 0, none⟩) 6 6] ∧ Blk wr (w.heap.size + 1) 3 (cellsI la) ∧ Hid (R = byE last (byL h seen (order.drop k) la)) ∧ Below w.heap.size w wr) (fun s8 _ => no - (intOf s8).toNat)
  case atStart => exact ⟨0, [0, 0, 0, 0, 0, 0], Nat.zero_le _, rfl, rfl, hB0, hB1, HBY, hb0⟩
  case round =>
    clear hB0 hB1 hb0 HBY
    obtain ⟨k, la, hk, rfl, hla, hB4, hB5, HB, hbw⟩ := hrel
    obtain ⟨wo, rfl⟩ : ∃ wo : World, wo = wr := ⟨_, rfl⟩
    obtain ⟨hrh, hrs, hrl, hro⟩ := unhide HX wo hbw
    have hl4 := hB4.lt
    have hl5 := hB5.lt
    by_cases hlt : k < no
    · obtain ⟨b, off, tx, he, hb, hx, c0⟩ := hro.int (k := k) hlt
      cases he
      have HB2 : Hid (R = byE last (if (simL tx la (ownL h tx)).2 = ownL seen tx then byL h seen (order.drop (k + 1)) (simL tx la (ownL h tx)).1 else none)) := Lib.hid (by rw [HB.out, drop_at hx, byL]; rfl)
      have HNO : Hid ((simL tx la (ownL h tx)).2 ≠ ownL seen tx → R = false) := Lib.hid (fun hne => by rw [HB2.out, if_neg hne]; rfl)
      have CO := hide (rof_any A n c h tx wo hrh (by omega))
      clear HB hx hrs hrl hro hrh
      go_wp2_with fail
      refine (unhide CO).mono ?_
      rintro e w5 ⟨v5, m5, rfl, ho5, hm5, hb5⟩
      obtain ⟨A5, c5, rfl⟩ := own_slice ho5
      have hbw5 := hbw.trans (hb5.mono hbw.size)
      have hB45 := hB4.below hb5 hl4
      have hB55 := hB5.below hb5 hl5
      obtain ⟨hrh, hrs, hrl, hro⟩ := unhide HX w5 hbw5
      have CS := hide (lseen_any v1 (.slice (some ⟨b3, 0, none⟩) 6 6) A2 n2 c2 seen tx w5 hrs (by omega))
      have z0 := hB45.cellS (i := 0) (v := v1) rfl
      have z1 := hB45.cellS (i := 1) (v := .slice A2 n2 c2) rfl
      have z2 := hB45.cellS (i := 2) (v := .slice (some ⟨b3, 0, none⟩) 6 6) rfl
      have hz5 := hb5.size
      clear hrs hrl hro hrh CO hB4 hB5
      go_wp2_with fail
      refine (unhide CS).mono ?_
      rintro e w6 ⟨v6, m6, rfl, ho6, hm6, hb6⟩
      obtain ⟨A6, c6, rfl⟩ := own_slice ho6
      have hbw6 := hbw5.trans (hb6.mono hbw5.size)
      have hl45 := hB45.lt
      have hl55 := hB55.lt
      have hB46 := hB45.below hb6 hl45
      have hB56 := hB55.below hb6 hl55
      have ho56 := own_below ho5 hb6 (Nat.le_refl _)
      have hlo := (rd_own ho56).hlen
      have hls := (rd_own ho6).hlen
      clear CS z0 z1 z2 hB45 hB55 ho5
      go_wp2
      go_loopw [12, 13] (fun s12 s13 wr => ∃ (kk j : Nat) (lb : List Int) (acc : List HOp), j ≤ m5 ∧ kk = acc.length ∧ kk ≤ m6 ∧ Hid (acc = (ownL seen tx).take kk) ∧ s13 = .int .i64 j ∧ s12 = .int .i64 kk ∧ lb.length = 6 ∧ Blk wr w.heap.size 28 [v1, .slice A2 n2 c2, .slice (some ⟨b3, 0, none⟩) 6 6] ∧ Blk wr (w.heap.size + 1) 3 (cellsI lb) ∧ wr.ownsRow wo.heap.size 24 3 (.slice A5 m5 c5) m5 (cellsH (ownL h tx)) ∧ wr.ownsRow w5.heap.size 40 3 (.slice A6 m6 c6) m6 (cellsH (ownL seen tx)) ∧ Hid (((ownL h tx).drop j).foldl (simStep tx) (lb, acc) = simL tx la (ownL h tx)) ∧ Below w.heap.size w wr) (fun _ s13 _ => m5 - (intOf s13).toNat)
      case atStart => exact ⟨0, 0, la, [], Nat.zero_le _, rfl, Nat.zero_le _, Lib.hid (by simp), rfl, rfl, hla, hB46, hB56, ho56, ho6, Lib.hid rfl, hbw6⟩
      case round =>
        clear hB46 hB56 ho56 ho6 hbw6
        obtain ⟨kk, j, lb, acc, hj, hkk, hkm, HAC, rfl, rfl, hlb, hB7, hB8, ho7, ho8, HS, hbw7⟩ := hrel
        have HKK := Lib.hid hkk
        clear hkk
        by_cases hlt2 : j < m5
        · obtain ⟨b7, off7, o, he7, hb7, hx7, d0, d1, d2⟩ := (rd_own ho7).op (k := j) hlt2
          cases he7
          have hob := rightB_get (HRB.out o (List.mem_filter.1 (List.mem_of_getElem? hx7)).1)
          have HD := Lib.hid (drop_at hx7)
          obtain ⟨o1, what, item⟩ := o
          simp only at d0 d1 d2 hob
          by_cases hw2 : what = 2
          · subst hw2
            have hit := hob.2.2.2.2.1 (by decide)
            obtain ⟨jj, hjj⟩ : ∃ jj : Nat, item.toNat - 1 = jj := ⟨_, rfl⟩
            have i1 : IntKind.i64.wrap (item - 1) = (jj : Int) := by
              rw [show item - 1 = (jj : Int) by omega]; exact IntWalk.i64_in _ (by omega)
            have i2 : (0 : Int) ≤ (jj : Int) := by omega
            have i3 : (jj : Int) < 6 := by omega
            have i4 : (jj : Int) < ((6 : Nat) : Int) := by omega
            have fz := hB8.frozen jj
            have fc := hB8.cellS (i := jj) (v := .int .i64 lb[jj]) (by unfold cellsI; rw [List.getElem?_map, List.getElem?_eq_getElem (by omega)]; rfl)
            have HS2 : Hid (((ownL h tx).drop (j + 1)).foldl (simStep tx) (lb.set jj tx, acc) = simL tx la (ownL h tx)) := Lib.hid (by
              rw [← HS.out, HD.out, List.foldl_cons]
              congr 1
              unfold simStep
              rw [if_pos rfl, ← hjj])
            have hB8' := hB8.put jj (.int .i64 tx)
            have e8 : (cellsI lb).set jj (.int .i64 tx) = cellsI (lb.set jj tx) := by unfold cellsI; rw [List.map_set]
            rw [e8] at hB8'
            have hB7' := hB7.far (p := ⟨w.heap.size + 1, jj, none⟩) (by simp) (.int .i64 tx)
            have ho7' := own_far ho7 (p := ⟨w.heap.size + 1, jj, none⟩) hl5 (.int .i64 tx)
            have ho8' := own_far ho8 (p := ⟨w.heap.size + 1, jj, none⟩) hl55 (.int .i64 tx)
            have hbw8 := hbw7.setCell (p := ⟨w.heap.size + 1, jj, none⟩) (Nat.le_succ _) (.int .i64 tx)
            have hlb2 : (lb.set jj tx).length = 6 := by rw [List.length_set]; exact hlb
            obtain ⟨b7', off7', o', he7', hb7', hx7', d0', d1', d2'⟩ := (rd_own ho7').op (k := j) hlt2
            cases he7'
            rw [hx7] at hx7'
            cases hx7'
            simp only at d0' d1' d2'
            clear hx7
            go_wp2
            go_roundw
            case rel => exact ⟨kk, j + 1, _, acc, by omega, HKK.out, hkm, HAC, by go_num, rfl, hlb2, hB7', hB8', ho7', ho8', HS2, hbw8⟩
            case measure => simp [intOf]; omega
          · by_cases hw1 : what = 1
            · subst hw1
              clear hx7
              have hit := hob.2.2.2.2.1 (by decide)
              obtain ⟨jj, hjj⟩ : ∃ jj : Nat, item.toNat - 1 = jj := ⟨_, rfl⟩
              have i1 : IntKind.i64.wrap (item - 1) = (jj : Int) := by
                rw [show item - 1 = (jj : Int) by omega]; exact IntWalk.i64_in _ (by omega)
              have i2 : (0 : Int) ≤ (jj : Int) := by omega
              have i3 : (jj : Int) < 6 := by omega
              have i4 : (jj : Int) < ((6 : Nat) : Int) := by omega
              have fc := hB8.cellS (i := jj) (v := .int .i64 (lb.getD jj 0)) (by unfold cellsI; rw [List.getElem?_map, List.getElem?_eq_getElem (by omega), List.getD_eq_getElem?_getD, List.getElem?_eq_getElem (by omega)]; rfl)
              have HS2 : Hid (((ownL h tx).drop (j + 1)).foldl (simStep tx) (lb, acc ++ [⟨tx, item, lb.getD jj 0⟩]) = simL tx la (ownL h tx)) := Lib.hid (by
                rw [← HS.out, HD.out, List.foldl_cons]
                congr 1
                unfold simStep
                rw [if_neg (show ¬ (1 : Int) = 2 by decide), if_pos rfl, ← hjj])
              have HNE : Hid ((ownL seen tx)[kk]? ≠ some ⟨tx, item, lb.getD jj 0⟩ → R = false) := Lib.hid (fun hne => HNO.out (fun e => hne (by
                rw [HKK.out, ← e]
                exact sim_at (laF := (simL tx la (ownL h tx)).1) HS2.out)))
              by_cases hkm2 : kk < m6
              · obtain ⟨b8, off8, q, he8, hb8, hx8, q0, q1, q2⟩ := (rd_own ho8).op (k := kk) hkm2
                cases he8
                have hqt : q.tx = tx := by
                  have := (List.mem_filter.1 (List.mem_of_getElem? hx8)).2
                  simpa using this
                obtain ⟨qa, qb, qc⟩ := q
                simp only at hqt q0 q1 q2
                subst hqt
                have tg : decide (m6 ≤ kk) = false := decide_eq_false (by omega)
                generalize lb.getD jj 0 = fr at *
                by_cases hqb : qb = item
                · subst hqb
                  by_cases hqc : qc = fr
                  · subst hqc
                    have HAC2 : Hid (acc ++ [(⟨qa, qb, qc⟩ : HOp)] = (ownL seen qa).take (kk + 1)) := Lib.hid (by rw [takeSnoc hx8, ← HAC.out])
                    have HLEN2 := Lib.hid (show kk + 1 = (acc ++ [(⟨qa, qb, qc⟩ : HOp)]).length from by rw [List.length_append, List.length_singleton, HKK.out])
                    clear hx8
                    go_upto_region 15 with fail
                    go_quiet (fail)
                    go_wp2
                    go_roundw
                    case rel => exact ⟨kk + 1, j + 1, lb, _, by omega, HLEN2.out, by omega, HAC2, by go_num, by go_num, hlb, hB7, hB8, ho7, ho8, HS2, below_drewN hbw7 _⟩
                    case measure => simp [intOf]; omega
                  · have tq : (qc != fr) = true := by simpa using hqc
                    have HRF := Lib.hid (HNE.out (by rw [hx8]; intro e; injection e with e; injection e with _ _ e; exact hqc e))
                    clear hx8 hqc
                    go_upto_region 15 with fail
                    go_quiet (fail)
                    go_wp2
                    go_ret
                    exact ⟨ret_bool HRF.out.symm, below_drewN hbw7 _⟩
                · have tq : (qb != item) = true := by simpa using hqb
                  have HRF := Lib.hid (HNE.out (by rw [hx8]; intro e; injection e with e; injection e with _ e _; exact hqb e))
                  clear hx8 hqb
                  go_upto_region 15 with fail
                  go_quiet (fail)
                  go_wp2
                  go_ret
                  exact ⟨ret_bool HRF.out.symm, below_drewN hbw7 _⟩
              · have tg : decide (m6 ≤ kk) = true := decide_eq_true (by omega)
                have HRF := Lib.hid (HNE.out (by rw [List.getElem?_eq_none (by omega)]; simp))
                go_upto_region 15 with fail
                go_quiet (fail)
                go_wp2
                go_ret
                exact ⟨ret_bool HRF.out.symm, below_drewN hbw7 _⟩
            · clear hx7
              have t1 : (what == 1) = false := by simpa using hw1
              have t2 : (what == 2) = false := by simpa using hw2
              have HS2 : Hid (((ownL h tx).drop (j + 1)).foldl (simStep tx) (lb, acc) = simL tx la (ownL h tx)) := Lib.hid (by
                rw [← HS.out, HD.out, List.foldl_cons]
                congr 1
                unfold simStep
                rw [if_neg hw2, if_neg hw1])
              go_wp2
              go_roundw
              case rel => exact ⟨kk, j + 1, lb, acc, by omega, HKK.out, hkm, HAC, by go_num, rfl, hlb, hB7, hB8, ho7, ho8, HS2, hbw7⟩
              case measure => simp [intOf]; omega
        · have HS2 : Hid (simL tx la (ownL h tx) = (lb, acc)) := Lib.hid (by
            have h1 := HS.out
            rw [drop_end (by omega), List.foldl_nil] at h1
            exact h1.symm)
          by_cases hkm2 : kk = m6
          · subst hkm2
            have HB3 : Hid (R = byE last (byL h seen (order.drop (k + 1)) lb)) := Lib.hid (by
              have h1 := HB2.out
              rw [HS2.out] at h1
              simp only at h1
              rw [if_pos (by rw [HAC.out, List.take_of_length_le (by omega)])] at h1
              exact h1)
            go_wp2
            go_roundw
            case rel => exact ⟨k + 1, lb, by omega, by go_num, hlb, hB7, hB8, HB3, hbw7⟩
            case measure => simp [intOf]; omega
          · have HRF := Lib.hid (HNO.out (by
              rw [HS2.out]
              intro e
              have h1 := congrArg List.length e
              simp only at h1
              rw [← HKK.out, hls] at h1
              exact hkm2 h1))
            have tq : ((kk : Int) != (m6 : Int)) = true := by simp; omega
            go_wp2
            go_ret
            exact ⟨ret_bool HRF.out.symm, hbw7⟩
    · have HB2 : Hid (R = decide (last = la)) := Lib.hid (by
        rw [HB.out, drop_end (by rw [HL.out.2.2]; omega), byL]
        show decide (la = last) = _
        rw [Bool.eq_iff_iff, decide_eq_true_iff, decide_eq_true_iff]
        exact eq_comm)
      have z2 := hB4.cellS (i := 2) (v := .slice (some ⟨b3, 0, none⟩) 6 6) rfl
      have hri := rd_own (own_blk hB5 (base := 0) (size := 1) (n := 6) (Nat.zero_le _) (by decide) (by unfold cellsI; rw [List.length_map, hla]))
      have CI := hide (ints_any (some ⟨b3, 0, none⟩) (some ⟨w.heap.size + 1, 0, none⟩) 6 6 6 6 last la wo hrl hri (by omega))
      rw [← HB2.out] at CI
      clear hri hrl hro hrs hrh HB HB2
      go_wp2_with fail
      refine (unhide CI).mono ?_
      rintro e w9 ⟨rfl, hb9⟩
      go_wp2
      go_ret
      exact ⟨rfl, hbw.trans (hb9.mono hbw.size)⟩

/-- Is there such an order, behind a beginning? -/
def someF (ok : List Int → Bool) (dn : List Int) : Nat → List Int → Bool
  | 0, bg => ok bg
  | f + 1, bg => if dn.length ≤ bg.length then ok bg else dn.any fun d => !decide (d ∈ bg) && someF ok dn f (bg ++ [d])
theorem someF_of (ok : List Int → Bool) {dn : List Int} : ∀ (f : Nat) (bg rest : List Int), (bg ++ rest).Perm dn → dn.Nodup → rest.length ≤ f → ok (bg ++ rest) = true → someF ok dn f bg = true
  | 0, bg, rest, _, _, hl, hok => by
    have : rest = [] := List.eq_nil_of_length_eq_zero (by omega)
    rw [this, List.append_nil] at hok
    exact hok
  | f + 1, bg, rest, hp, hn, hl, hok => by
    rw [someF]
    have hlen := hp.length_eq
    rw [List.length_append] at hlen
    cases rest with
    | nil =>
      rw [if_pos (by simp at hlen; omega)]
      rw [List.append_nil] at hok; exact hok
    | cons d rest =>
      rw [if_neg (by simp at hlen; omega), List.any_eq_true]
      have hnd := hp.nodup_iff.2 hn
      refine ⟨d, hp.mem_iff.1 (by simp), ?_⟩
      rw [Bool.and_eq_true, Bool.not_eq_true', decide_eq_false_iff_not]
      refine ⟨fun hm => (List.nodup_append.1 hnd).2.2 d hm d List.mem_cons_self rfl, ?_⟩
      refine someF_of ok f (bg ++ [d]) rest (by rw [List.append_assoc]; exact hp) hn (by simp at hl; omega) ?_
      rw [List.append_assoc]; exact hok
theorem someF_ge {ok : List Int → Bool} {dn : List Int} (f : Nat) {bg : List Int} (h : dn.length ≤ bg.length) : someF ok dn f bg = ok bg := by
  cases f
  · rfl
  · rw [someF, if_pos h]
set_option maxRecDepth 100000 in
set_option maxHeartbeats 4000000 in
theorem some_any (A : Option Addr) (n c : Nat) (h : List HOp) (A1 : Option Addr) (n1 c1 : Nat) (dn : List Int) (A2 : Option Addr) (n2 c2 : Nat) (seen : List HOp) (b3 : Nat) (last : List Int) (hm : n ≤ 1000) (hR : ∀ o ∈ h, rightB o = true) (hn1 : n1 ≤ 1000) (hn2 : n2 ≤ 100000) : ∀ (f : Nat) (bg : List Int) (Ag : Option Addr) (ng cg : Nat) (w : World),
    Rd w w.heap.size 3 A n (cellsH h) → Rd w w.heap.size 1 A1 n1 (cellsI dn) → Rd w w.heap.size 3 A2 n2 (cellsH seen) → Rd w w.heap.size 1 (some ⟨b3, 0, none⟩) 6 (cellsI last) → Rd w w.heap.size 1 Ag ng (cellsI bg) → ng ≤ 1000 → n1 ≤ ng + f → ng + f ≤ 1000 →
    Calls Try.prog 23 #[.slice A n c, .agg #[.slice A1 n1 c1, .slice A2 n2 c2, .slice (some ⟨b3, 0, none⟩) 6 6], .slice Ag ng cg] w fun e w' => e = .returned (.bool (someF (byB h seen last) dn f bg)) ∧ Below w.heap.size w w' := by
  intro f
  induction f with
  | zero =>
    intro bg Ag ng cg w hr h1 h2 h3 hg hng hf hf2
    have hge : dn.length ≤ bg.length := by have e1 := h1.ilen; have e2 := hg.ilen; omega
    rw [someF_ge 0 hge]
    have tg : decide (n1 ≤ ng) = true := decide_eq_true (by omega)
    have hb0 : Below w.heap.size w (w.alloc (.cells #[.slice A1 n1 c1, .slice A2 n2 c2, .slice (some ⟨b3, 0, none⟩) 6 6] 28)) := (Below.refl _ _).alloc (Nat.le_refl _) _
    have hB := Blk.new w 28 [.slice A1 n1 c1, .slice A2 n2 c2, .slice (some ⟨b3, 0, none⟩) 6 6]
    have z0 := hB.cellS (i := 0) (v := .slice A1 n1 c1) rfl
    have z1 := hB.cellS (i := 1) (v := .slice A2 n2 c2) rfl
    have z2 := hB.cellS (i := 2) (v := .slice (some ⟨b3, 0, none⟩) 6 6) rfl
    have CB := hide (lbyB_any A n c h (.slice A1 n1 c1) A2 n2 c2 seen b3 last Ag ng cg bg _ ((hr.below hb0).more hb0.size) hm hR ((h2.below hb0).more hb0.size) hn2 ((h3.below hb0).more hb0.size) ((hg.below hb0).more hb0.size) (by omega))
    clear hr h1 h2 h3 hg hge hB
    generalize byB h seen last bg = R at *
    go_enter Try.func23, Try.ntmps23
    go_wp2_with fail
    refine (unhide CB).mono ?_
    rintro e w2 ⟨rfl, hb2⟩
    go_wp2
    go_ret
    exact ⟨rfl, hb0.trans (hb2.mono hb0.size)⟩
  | succ f ih =>
    intro bg Ag ng cg w hr h1 h2 h3 hg hng hf hf2
    have e1 := h1.ilen
    have e2 := hg.ilen
    have hb0 : Below w.heap.size w (w.alloc (.cells #[.slice A1 n1 c1, .slice A2 n2 c2, .slice (some ⟨b3, 0, none⟩) 6 6] 28)) := (Below.refl _ _).alloc (Nat.le_refl _) _
    have hB := Blk.new w 28 [.slice A1 n1 c1, .slice A2 n2 c2, .slice (some ⟨b3, 0, none⟩) 6 6]
    have z0 := hB.cellS (i := 0) (v := .slice A1 n1 c1) rfl
    by_cases hge : dn.length ≤ bg.length
    · rw [someF_ge (f + 1) hge]
      have tg : decide (n1 ≤ ng) = true := decide_eq_true (by omega)
      have z1 := hB.cellS (i := 1) (v := .slice A2 n2 c2) rfl
      have z2 := hB.cellS (i := 2) (v := .slice (some ⟨b3, 0, none⟩) 6 6) rfl
      have CB := hide (lbyB_any A n c h (.slice A1 n1 c1) A2 n2 c2 seen b3 last Ag ng cg bg _ ((hr.below hb0).more hb0.size) hm hR ((h2.below hb0).more hb0.size) hn2 ((h3.below hb0).more hb0.size) ((hg.below hb0).more hb0.size) (by omega))
      clear hr h1 h2 h3 hg hge hB ih e1 e2
      generalize byB h seen last bg = R at *
      go_enter Try.func23, Try.ntmps23
      go_wp2_with fail
      refine (unhide CB).mono ?_
      rintro e w2 ⟨rfl, hb2⟩
      go_wp2
      go_ret
      exact ⟨rfl, hb0.trans (hb2.mono hb0.size)⟩
    · have tg : decide (n1 ≤ ng) = false := decide_eq_false (by omega)
      have HR : Hid (someF (byB h seen last) dn (f + 1) bg = (dn.drop 0).any fun d => !decide (d ∈ bg) && someF (byB h seen last) dn f (bg ++ [d])) := Lib.hid (by rw [someF, if_neg hge, List.drop_zero])
      have HX := hide (fun w' (hb : Below w.heap.size w w') => show Rd w' w'.heap.size 3 A n (cellsH h) ∧ Rd w' w'.heap.size 1 A1 n1 (cellsI dn) ∧ Rd w' w'.heap.size 3 A2 n2 (cellsH seen) ∧ Rd w' w'.heap.size 1 (some ⟨b3, 0, none⟩) 6 (cellsI last) ∧ Rd w' w'.heap.size 1 Ag ng (cellsI bg) from ⟨(hr.below hb).more hb.size, (h1.below hb).more hb.size, (h2.below hb).more hb.size, (h3.below hb).more hb.size, (hg.below hb).more hb.size⟩)
      have HIH := hide ih
      have HE1 := Lib.hid e1
      clear hr h1 h2 h3 hg hge ih e1 e2
      generalize someF (byB h seen last) dn (f + 1) bg = R at *
      go_enter Try.func23, Try.ntmps23
      go_wp2
      clear tg z0
      go_loopw [7] (fun s7 wr => ∃ k : Nat, k ≤ n1 ∧ s7 = .int .i64 k ∧ Hid (R = (dn.drop k).any fun d => !decide (d ∈ bg) && someF (byB h seen last) dn f (bg ++ [d])) ∧ Blk wr w.heap.size 28 [.slice A1 n1 c1, .slice A2 n2 c2, .slice (some ⟨b3, 0, none⟩) 6 6] ∧ Below w.heap.size w wr) (fun s7 _ => n1 - (intOf s7).toNat)
      case atStart => exact ⟨0, Nat.zero_le _, rfl, HR, hB, hb0⟩
      case round =>
        clear HR hB hb0
        obtain ⟨k, hk, rfl, HE, hB4, hbw⟩ := hrel
        have z0 := hB4.cellS (i := 0) (v := .slice A1 n1 c1) rfl
        have z1 := hB4.cellS (i := 1) (v := .slice A2 n2 c2) rfl
        have z2 := hB4.cellS (i := 2) (v := .slice (some ⟨b3, 0, none⟩) 6 6) rfl
        have hz := hbw.size
        have hl4 := hB4.lt
        by_cases hlt : k < n1
        · obtain ⟨hrh, hrd, hrs, hrl, hrg⟩ := unhide HX wr hbw
          obtain ⟨b, off, d, he, hb, hx, c0⟩ := hrd.int (k := k) hlt
          cases he
          have HE2 : Hid (R = ((!decide (d ∈ bg) && someF (byB h seen last) dn f (bg ++ [d])) || (dn.drop (k + 1)).any fun d => !decide (d ∈ bg) && someF (byB h seen last) dn f (bg ++ [d]))) := Lib.hid (by rw [HE.out, drop_at hx, List.any_cons])
          have CI := hide (rin_any Ag ng cg bg d wr _ hrg (by omega))
          have HDK := Lib.hid hx
          clear hx hrh hrs hrl HE
          by_cases hin : d ∈ bg
          · rw [decide_eq_true hin] at CI
            have HE3 : Hid (R = (dn.drop (k + 1)).any fun d => !decide (d ∈ bg) && someF (byB h seen last) dn f (bg ++ [d])) := Lib.hid (by rw [HE2.out, decide_eq_true hin]; simp)
            clear hin HE2 hrd hrg
            go_wp2_with fail
            refine (unhide CI).mono ?_
            rintro e w2 ⟨rfl, rfl⟩
            go_wp2
            go_roundw
            case rel => exact ⟨k + 1, by omega, by go_num, HE3, hB4, hbw⟩
            case measure => simp [intOf]; omega
          · rw [decide_eq_false hin] at CI
            obtain ⟨q, hq⟩ : ∃ q : Bool, someF (byB h seen last) dn f (bg ++ [d]) = q := ⟨_, rfl⟩
            have HE3 : Hid (R = (q || (dn.drop (k + 1)).any fun d => !decide (d ∈ bg) && someF (byB h seen last) dn f (bg ++ [d]))) := Lib.hid (by rw [HE2.out, decide_eq_false hin, hq]; simp)
            have HQ := Lib.hid hq
            clear hin HE2 hq hrd
            go_wp2_with fail
            refine (unhide CI).mono ?_
            rintro e w2 ⟨rfl, rfl⟩
            clear CI
            have onil := World.ownsRow_nil wr (w.heap.size + 1) 3 1
            have hz1 : w.heap.size + 1 ≤ wr.heap.size := hl4
            go_wp2_with (first
              | (at_builtin; refine wpList_app rfl (.tmp 36) (.tmp 37) _ rfl (w.heap.size + 1) slt_ints (n := 0) (xs := []) (m := ng) (news := cellsI bg) rfl onil rfl hrg (oneI _) (by omega) hz1 ?_; intro v5 w5 hown5 hg5 hb5 hat5 hne5; obtain ⟨A5, c5, rfl⟩ := own_slice hown5; rw [List.nil_append] at hown5; have hown5' := hown5; (simp only [Nat.zero_add] at hown5'); (try simp only [Nat.zero_add]); have hbw5 := hbw.trans (hb5.mono (Nat.le_succ _)); have hB5 := hB4.grown hg5 (fun j hj e => by cases hj); have y0 := hB5.cellS (i := 0) (v := .slice (some ⟨b, off, none⟩) n1 c1) rfl; obtain ⟨_, hrd5, _⟩ := unhide HX w5 hbw5; obtain ⟨b', off', x', he', _, hx', c5'⟩ := hrd5.int (k := k) hlt; cases he'; rw [HDK.out] at hx'; cases hx')
              | (at_builtin; refine wpList_app rfl (.tmp 39) (.tmp 45) _ rfl (w.heap.size + 1) slt_ints (n := ng) (xs := cellsI bg) (m := 1) (news := cellsI [d]) rfl (own_alloc hown5' _) rfl (rd_new' _ _ (cellsI [d]) (by simp) rfl) (oneI _) (by omega) (by simp; have := hbw5.size; have := hb5.size; omega) ?_; intro v6 w6 hown6 hg6 hb6 hat6 hne6; obtain ⟨A6, c6, rfl⟩ := own_slice hown6; have hl5 := hown5'.lt; have hB6 := (hB5.alloc (.cells (cellsI [d]).toArray 3)).grown hg6 (fun j hj e => by have := (hl5 j hj).1; omega); have x0 := hB6.cellS (i := 0) (v := .slice (some ⟨b, off, none⟩) n1 c1) rfl; have x1 := hB6.cellS (i := 1) (v := .slice A2 n2 c2) rfl; have x2 := hB6.cellS (i := 2) (v := .slice (some ⟨b3, 0, none⟩) 6 6) rfl))
            have hbw6 := (hbw5.alloc hbw5.size (.cells (cellsI [d]).toArray 3)).trans (hb6.mono (Nat.le_succ _))
            obtain ⟨hrh, hrd, hrs, hrl, _⟩ := unhide HX w6 hbw6
            have hr6 : Rd w6 w6.heap.size 1 A6 (ng + 1) (cellsI (bg ++ [d])) := by
              have := rd_own hown6
              simpa [cellsI] using this
            have CR := hide (unhide HIH (bg ++ [d]) A6 (ng + 1) c6 w6 hrh hrd hrs hrl hr6 (by omega) (by omega) (by omega))
            rw [HQ.out] at CR
            clear hrh hrd hrs hrl hr6 hown6 hown5 hown5' hB5 hg5 hg6 hrg
            refine (unhide CR).mono ?_
            rintro e w7 ⟨rfl, hb7⟩
            have hB7 := hB6.below hb7 hB6.lt
            have hbw7 := hbw6.trans (hb7.mono hbw6.size)
            cases q
            · have HE4 : Hid (R = (dn.drop (k + 1)).any fun d => !decide (d ∈ bg) && someF (byB h seen last) dn f (bg ++ [d])) := Lib.hid (by rw [HE3.out]; simp)
              go_wp2
              go_roundw
              case rel => exact ⟨k + 1, by omega, by go_num, HE4, hB7, hbw7⟩
              case measure => simp [intOf]; omega
            · have HE4 : Hid (R = true) := Lib.hid (by rw [HE3.out]; simp)
              go_wp2
              go_ret
              exact ⟨ret_bool HE4.out.symm, hbw7⟩
        · have HE2 : Hid (R = false) := Lib.hid (by rw [HE.out, drop_end (by rw [HE1.out]; omega)]; rfl)
          go_wp2
          go_ret
          exact ⟨ret_bool HE2.out.symm, hbw⟩
end Go.Proofs.Ytigmgeaimcglhaa
