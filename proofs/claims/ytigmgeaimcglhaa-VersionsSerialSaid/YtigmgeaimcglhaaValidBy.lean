
/-
  CONTRACTS of lanelaw2.right, seen, by, where what they ask is so.
-/
import Derived.Test.YtigmgeaimcglhaaVD3
import Derived.Test.YtigmgeaimcglhaaROf
import Derived.Test.YtigmgeaimcglhaaPieces
import Derived.Test.YtigmgeaimcglhaaN1
import Derived.Test.YtigmgeaimcglhaaSame
import Derived.Test.YtigmgeaimcglhaaValidS
import Derived.BigQuiet

namespace Go.Proofs.Ytigmgeaimcglhaa
open Go.RowKit

theorem Rd.itake {w : World} {B n i : Nat} {A : Option Addr} {h : List Int} (hr : Rd w B 1 A n (cellsI h)) (hi : i ≤ n) : Rd w B 1 A i (cellsI (h.take i)) := by
  have hl := hr.ilen
  refine ⟨by rw [cellsI, List.length_map, List.length_take]; omega, fun hi0 => ?_⟩
  obtain ⟨b, off, e, hb, hc⟩ := hr.2 (by omega)
  refine ⟨b, off, e, hb, fun j u hu => hc j u ?_⟩
  rw [cellsI, List.getElem?_map] at hu ⊢
  rw [List.getElem?_take] at hu
  split at hu
  · exact hu
  · cases hu
set_option maxRecDepth 100000 in
set_option maxHeartbeats 2000000 in
theorem lright_any (A : Option Addr) (n c : Nat) (h : List HOp) (A1 : Option Addr) (n1 c1 : Nat) (dn : List Int) (v2 : Value) (A3 : Option Addr) (c3 : Nat) (w : World) (hr : Rd w w.heap.size 3 A n (cellsH h)) (hm : n ≤ 1000000000) (h1 : Rd w w.heap.size 1 A1 n1 (cellsI dn)) (hc : n1 ≤ c1) (hnd : dn.Nodup) (hE : ∀ t ∈ dn, endGo t h = 3) (h6 : n1 ≤ 6) :
    Calls Try.prog 16 #[.slice A n c, .agg #[.slice A1 n1 c1, v2, .slice A3 6 c3]] w fun e w' => e = .returned (.bool true) ∧ Below w.heap.size w w' := by
  have HL := Lib.hid (And.intro hr.hlen h1.ilen)
  have HND := Lib.hid hnd
  have HE := Lib.hid hE
  have hb0 : Below w.heap.size w (w.alloc (.cells #[.slice A1 n1 c1, v2, .slice A3 6 c3] 28)) := (Below.refl _ _).alloc (Nat.le_refl _) _
  have hB := Blk.new w 28 [.slice A1 n1 c1, v2, .slice A3 6 c3]
  have HX := hide (fun w' (hb : Below (w.heap.size + 1) (w.alloc (.cells #[.slice A1 n1 c1, v2, .slice A3 6 c3] 28)) w') => And.intro (hB.below hb (Nat.lt_succ_self _)) (And.intro (show Rd w' w.heap.size 3 A n (cellsH h) from (hr.below (hb0.trans (hb.mono (Nat.le_succ _))))) (show Rd w' w.heap.size 1 A1 n1 (cellsI dn) from h1.below (hb0.trans (hb.mono (Nat.le_succ _))))))
  clear hr h1 hnd hE hB
  go_enter Try.func16, Try.ntmps16
  go_wp2
  go_loopw [5] (fun s5 wr => ∃ k : Nat, k ≤ n1 ∧ s5 = .int .i64 k ∧ Below (w.heap.size + 1) (w.alloc (.cells #[.slice A1 n1 c1, v2, .slice A3 6 c3] 28)) wr) (fun s5 _ => n1 - (intOf s5).toNat)
  case atStart => exact ⟨0, Nat.zero_le _, rfl, Below.refl _ _⟩
  case round =>
    obtain ⟨k, hk, rfl, hbw⟩ := hrel
    obtain ⟨hB, hrh, hrd⟩ := unhide HX wr hbw
    have z0 := hB.cellS (i := 0) (v := .slice A1 n1 c1) rfl
    have z2 := hB.cellS (i := 2) (v := .slice A3 6 c3) rfl
    by_cases hlt : k < n1
    · obtain ⟨b, off, x, he, hb, hx, c0⟩ := hrd.int (k := k) hlt
      cases he
      have hni : decide (x ∈ dn.take k) = false := decide_eq_false fun hm => by
        obtain ⟨j, hj⟩ := List.mem_iff_getElem?.1 hm
        rw [List.getElem?_take] at hj
        split at hj
        · rename_i hjk
          have h2 := HND.out
          have e1 := (List.getElem?_eq_some_iff.1 hj)
          have e2 := (List.getElem?_eq_some_iff.1 hx)
          obtain ⟨p1, q1⟩ := e1
          obtain ⟨p2, q2⟩ := e2
          have := (List.getElem_inj h2).1 (q1.trans q2.symm)
          omega
        · cases hj
      have hex := HE.out x (List.mem_of_getElem? hx)
      have CI := hide (fun m => (rin_any (some ⟨b, off, none⟩) k c1 (dn.take k) x (wr.drewN m) _ (show Rd (wr.drewN m) _ 1 _ _ _ from hrd.itake (Nat.le_of_lt hlt)) (by omega)).mono fun _ _ ⟨h1, h2⟩ => (And.intro h1 h2.symm))
      rw [hni] at CI
      have CE := hide (fun m => end_any A n c h x n (wr.drewN m) _ (show Rd (wr.drewN m) _ 3 _ _ _ from hrh) (Nat.le_refl _) (by omega))
      rw [List.take_of_length_le (by rw [HL.out.1]; exact Nat.le_refl _), hex] at CE
      have hkc : k ≤ c1 := by omega
      clear hx hni hex
      go_upto_region 4 with fail
      go_quiet ((go_at_call 13; exact Calls.quiet_of_same (unhide CI _)))
      go_wp2_with fail
      refine (unhide CE _).mono ?_
      rintro e w2 ⟨rfl, rfl⟩
      go_wp2
      go_roundw
      case rel => exact ⟨k + 1, by omega, by go_num, below_drewN hbw _⟩
      case measure => simp [intOf]; omega
    · have hq : decide ((n1 : Int) ≤ 6) = true := decide_eq_true (by omega)
      go_wp2
      go_ret
      exact ⟨rfl, hb0.trans (hbw.mono (Nat.le_succ _))⟩

set_option maxRecDepth 100000 in
set_option maxHeartbeats 2000000 in
theorem lseen_any (v1 v3 : Value) (A : Option Addr) (n cap : Nat) (h : List HOp) (tx : Int) (w : World) (hr : Rd w w.heap.size 3 A n (cellsH h)) (hm : n ≤ 1000000) :
    Calls Try.prog 36 #[.agg #[v1, .slice A n cap, v3], .int .i64 tx] w fun e w' => ∃ v m, e = .returned v ∧ w'.ownsRow w.heap.size 40 3 v m (cellsH (ownL h tx)) ∧ m ≤ n ∧ Below w.heap.size w w' := by
  have HL := Lib.hid hr.hlen
  have hb0 : Below w.heap.size w (w.alloc (.cells #[v1, .slice A n cap, v3] 28)) := (Below.refl _ _).alloc (Nat.le_refl _) _
  have hB := Blk.new w 28 [v1, .slice A n cap, v3]
  have HX := hide (fun w' (hb : Below (w.heap.size + 1) (w.alloc (.cells #[v1, .slice A n cap, v3] 28)) w') => And.intro (hB.below hb (Nat.lt_succ_self _)) (show Rd w' w.heap.size 3 A n (cellsH h) from (hr.below (hb0.trans (hb.mono (Nat.le_succ _))))))
  have hz0 : (w.alloc (.cells #[v1, .slice A n cap, v3] 28)).heap.size = w.heap.size + 1 := by simp
  clear hr hB
  go_enter Try.func36, Try.ntmps36
  go_wp2
  go_loopw [5, 6] (fun s5 s6 wr => ∃ k m : Nat, k ≤ n ∧ m ≤ k ∧ s6 = .int .i64 k ∧ wr.ownsRow (w.heap.size + 1) 40 3 s5 m (cellsH (ownL (h.take k) tx)) ∧ Below (w.heap.size + 1) (w.alloc (.cells #[v1, .slice A n cap, v3] 28)) wr) (fun _ s6 _ => n - (intOf s6).toNat)
  case atStart => exact ⟨0, 0, Nat.zero_le _, Nat.le_refl _, rfl, World.ownsRow_nil _ _ _ _, Below.refl _ _⟩
  case round =>
    obtain ⟨k, m, hk, hmk, rfl, ho5, hbw⟩ := hrel
    obtain ⟨A5, c5, rfl⟩ := own_slice ho5
    obtain ⟨hB, hrh⟩ := unhide HX wr hbw
    have z1 := hB.cellS (i := 1) (v := .slice A n cap) rfl
    by_cases hlt : k < n
    · obtain ⟨b, off, o, he, hb, ho, c0, c1, c2⟩ := hrh.op (k := k) (by omega)
      cases he
      have HS := Lib.hid (ownL_snoc ho tx)
      clear ho
      have hz := hbw.size
      by_cases ht : o.tx = tx
      · have HS2 : Hid (ownL (h.take (k + 1)) tx = ownL (h.take k) tx ++ [o]) := Lib.hid (by rw [HS.out, if_pos ht])
        obtain ⟨o1, o2, o3⟩ := o
        simp only at c0 c1 c2 ht
        subst ht
        clear HS
        go_wp2_with (at_builtin; (refine wpList_app rfl (.tmp 22) (.tmp 28) _ rfl (w.heap.size + 1) slt_seen (n := m) (xs := cellsH (ownL (h.take k) o1)) (m := 1) (news := cellsH [⟨o1, o2, o3⟩]) rfl (own_alloc ho5 _) rfl (rd_new' _ _ (cellsH [⟨o1, o2, o3⟩]) (by simp) rfl) (oneH _) (by omega) (by simp; omega) ?_; intro v6 w6 hown6 hg6 hb6 hat6 hne6))
        have hb6' := (hbw.alloc (by omega) (.cells (cellsH [⟨o1, o2, o3⟩]).toArray 40)).trans hb6
        rw [← cellsH_append, ← HS2.out] at hown6
        go_roundw
        case rel => exact ⟨k + 1, m + 1, by omega, by omega, by go_num, hown6, hb6'⟩
        case measure => simp [intOf]; omega
      · have HS2 : Hid (ownL (h.take (k + 1)) tx = ownL (h.take k) tx) := Lib.hid (by rw [HS.out, if_neg ht])
        have htb : (o.tx == tx) = false := by simpa using ht
        clear HS ht
        go_wp2
        go_roundw
        case rel => exact ⟨k + 1, m, by omega, by omega, by go_num, by rw [HS2.out]; exact ho5, hbw⟩
        case measure => simp [intOf]; omega
    · have HT : Hid (h.take k = h) := Lib.hid (List.take_of_length_le (by rw [HL.out]; omega))
      go_wp2
      go_ret
      exact ⟨_, _, rfl, by rw [HT.out] at ho5; exact own_mono ho5 (Nat.le_succ _), by omega, hb0.trans (hbw.mono (Nat.le_succ _))⟩
theorem sim_pre (tx : Int) : ∀ (ops : List HOp) (la : List Int) (acc : List HOp), ∃ t, (ops.foldl (simStep tx) (la, acc)).2 = acc ++ t
  | [], _, acc => ⟨[], by simp⟩
  | o :: ops, la, acc => by
    rw [List.foldl_cons]
    rcases (show (∃ lb, simStep tx (la, acc) o = (lb, acc)) ∨ ∃ x, simStep tx (la, acc) o = (la, acc ++ [x]) from by
      unfold simStep
      split
      · exact .inl ⟨_, rfl⟩
      · split
        · exact .inr ⟨_, rfl⟩
        · exact .inl ⟨_, rfl⟩) with ⟨lb, h⟩ | ⟨x, h⟩
    · rw [h]; exact sim_pre tx ops lb acc
    · rw [h]
      obtain ⟨t, h2⟩ := sim_pre tx ops la (acc ++ [x])
      exact ⟨x :: t, by rw [h2]; simp⟩
theorem sim_at {tx : Int} {ops : List HOp} {la laF : List Int} {acc s : List HOp} {x : HOp} (h : ops.foldl (simStep tx) (la, acc ++ [x]) = (laF, s)) : s[acc.length]? = some x := by
  obtain ⟨t, ht⟩ := sim_pre tx ops la (acc ++ [x])
  rw [h] at ht
  simp only at ht
  rw [ht]; simp
set_option maxRecDepth 100000 in
set_option maxHeartbeats 4000000 in
theorem lby_any (A : Option Addr) (n c : Nat) (h : List HOp) (v1 : Value) (A2 : Option Addr) (n2 c2 : Nat) (seen : List HOp) (b3 : Nat) (last : List Int) (Ao : Option Addr) (no co : Nat) (order : List Int) (w : World) (hr : Rd w w.heap.size 3 A n (cellsH h)) (hm : n ≤ 1000) (hR : ∀ o ∈ h, rightB o = true)
    (h2 : Rd w w.heap.size 3 A2 n2 (cellsH seen)) (hn2 : n2 ≤ 100000) (h3 : Rd w w.heap.size 1 (some ⟨b3, 0, none⟩) 6 (cellsI last)) (ho : Rd w w.heap.size 1 Ao no (cellsI order)) (hno : no ≤ 100000) (hB : byL h seen order [0, 0, 0, 0, 0, 0] = some last) :
    Calls Try.prog 17 #[.slice A n c, .agg #[v1, .slice A2 n2 c2, .slice (some ⟨b3, 0, none⟩) 6 6], .slice Ao no co] w fun e w' => e = .returned (.bool true) ∧ Below w.heap.size w w' := by
  have HL := Lib.hid (And.intro hr.hlen (And.intro h2.hlen ho.ilen))
  have HRB := Lib.hid hR
  have HBY := Lib.hid hB
  have hb0 : Below w.heap.size w ((w.alloc (.cells #[v1, .slice A2 n2 c2, .slice (some ⟨b3, 0, none⟩) 6 6] 28)).alloc (.cells #[.int .i64 0, .int .i64 0, .int .i64 0, .int .i64 0, .int .i64 0, .int .i64 0] 3)) := ((Below.refl _ _).alloc (Nat.le_refl _) _).alloc (by simp) _
  have hB0 := (Blk.new w 28 [v1, .slice A2 n2 c2, .slice (some ⟨b3, 0, none⟩) 6 6]).alloc (.cells #[.int .i64 0, .int .i64 0, .int .i64 0, .int .i64 0, .int .i64 0, .int .i64 0] 3)
  have hB1 := Blk.new (w.alloc (.cells #[v1, .slice A2 n2 c2, .slice (some ⟨b3, 0, none⟩) 6 6] 28)) 3 (cellsI [0, 0, 0, 0, 0, 0])
  rw [show (w.alloc (.cells #[v1, .slice A2 n2 c2, .slice (some ⟨b3, 0, none⟩) 6 6] 28)).heap.size = w.heap.size + 1 by simp] at hB1
  have HX := hide (fun w' (hb : Below w.heap.size w w') => And.intro ((hr.below hb).more hb.size) (And.intro ((h2.below hb).more hb.size) (And.intro ((h3.below hb).more hb.size) ((ho.below hb).more hb.size))))
  have hmk := make6
  clear hr h2 h3 ho hR hB
  go_enter Try.func17, Try.ntmps17
  go_wp2
  clear hmk
  go_loopw [8] (fun s8 wr => ∃ (k : Nat) (la : List Int), k ≤ no ∧ s8 = .int .i64 k ∧ la.length = 6 ∧ Blk wr w.heap.size 28 [v1, .slice A2 n2 c2, .slice (some ⟨b3, 0, none⟩) 6 6] ∧ Blk wr (w.heap.size + 1) 3 (cellsI la) ∧ Hid (byL h seen (order.drop k) la = some last) ∧ Below w.heap.size w wr) (fun s8 _ => no - (intOf s8).toNat)
  case atStart => exact ⟨0, [0, 0, 0, 0, 0, 0], Nat.zero_le _, rfl, rfl, hB0, hB1, HBY, hb0⟩
  case round =>
    clear hB0 hB1 hb0 HBY
    obtain ⟨k, la, hk, rfl, hla, hB4, hB5, HB, hbw⟩ := hrel
    obtain ⟨wo, rfl⟩ : ∃ wo : World, wo = wr := ⟨_, rfl⟩
    obtain ⟨hrh, hrs, hrl, hro⟩ := unhide HX wo hbw
    have hl4 := hB4.lt
    have hl5 := hB5.lt
    by_cases hlt : k < no
    · obtain ⟨b, off, tx, he, hb, hx, c0⟩ := hro.int (k := k) hlt
      cases he
      have HB2 : Hid ((simL tx la (ownL h tx)).2 = ownL seen tx ∧ byL h seen (order.drop (k + 1)) (simL tx la (ownL h tx)).1 = some last) := Lib.hid (by
        have h1 := HB.out
        rw [drop_at hx, byL] at h1
        split at h1
        · rename_i h2
          exact ⟨h2, h1⟩
        · cases h1)
      have CO := hide (rof_any A n c h tx wo hrh (by omega))
      clear HB hx hrs hrl hro hrh
      go_wp2_with fail
      refine (unhide CO).mono ?_
      rintro e w5 ⟨v5, m5, rfl, ho5, hm5, hb5⟩
      obtain ⟨A5, c5, rfl⟩ := own_slice ho5
      have hbw5 := hbw.trans (hb5.mono hbw.size)
      have hB45 := hB4.below hb5 hl4
      have hB55 := hB5.below hb5 hl5
      obtain ⟨hrh, hrs, hrl, hro⟩ := unhide HX w5 hbw5
      have CS := hide (lseen_any v1 (.slice (some ⟨b3, 0, none⟩) 6 6) A2 n2 c2 seen tx w5 hrs (by omega))
      have z0 := hB45.cellS (i := 0) (v := v1) rfl
      have z1 := hB45.cellS (i := 1) (v := .slice A2 n2 c2) rfl
      have z2 := hB45.cellS (i := 2) (v := .slice (some ⟨b3, 0, none⟩) 6 6) rfl
      have hz5 := hb5.size
      clear hrs hrl hro hrh CO hB4 hB5
      go_wp2_with fail
      refine (unhide CS).mono ?_
      rintro e w6 ⟨v6, m6, rfl, ho6, hm6, hb6⟩
      obtain ⟨A6, c6, rfl⟩ := own_slice ho6
      have hbw6 := hbw5.trans (hb6.mono hbw5.size)
      have hl45 := hB45.lt
      have hl55 := hB55.lt
      have hB46 := hB45.below hb6 hl45
      have hB56 := hB55.below hb6 hl55
      have ho56 := own_below ho5 hb6 (Nat.le_refl _)
      have hlo := (rd_own ho56).hlen
      have hls := (rd_own ho6).hlen
      clear CS z0 z1 z2 hB45 hB55 ho5
      go_wp2
      go_loopw [12, 13] (fun s12 s13 wr => ∃ (kk j : Nat) (lb : List Int) (acc : List HOp), j ≤ m5 ∧ kk = acc.length ∧ kk ≤ m6 ∧ s13 = .int .i64 j ∧ s12 = .int .i64 kk ∧ lb.length = 6 ∧ Blk wr w.heap.size 28 [v1, .slice A2 n2 c2, .slice (some ⟨b3, 0, none⟩) 6 6] ∧ Blk wr (w.heap.size + 1) 3 (cellsI lb) ∧ wr.ownsRow wo.heap.size 24 3 (.slice A5 m5 c5) m5 (cellsH (ownL h tx)) ∧ wr.ownsRow w5.heap.size 40 3 (.slice A6 m6 c6) m6 (cellsH (ownL seen tx)) ∧ Hid (((ownL h tx).drop j).foldl (simStep tx) (lb, acc) = simL tx la (ownL h tx)) ∧ Below w.heap.size w wr) (fun _ s13 _ => m5 - (intOf s13).toNat)
      case atStart => exact ⟨0, 0, la, [], Nat.zero_le _, rfl, Nat.zero_le _, rfl, rfl, hla, hB46, hB56, ho56, ho6, Lib.hid rfl, hbw6⟩
      case round =>
        clear hB46 hB56 ho56 ho6 hbw6
        obtain ⟨kk, j, lb, acc, hj, hkk, hkm, rfl, rfl, hlb, hB7, hB8, ho7, ho8, HS, hbw7⟩ := hrel
        have HKK := Lib.hid hkk
        clear hkk
        by_cases hlt2 : j < m5
        · obtain ⟨b7, off7, o, he7, hb7, hx7, d0, d1, d2⟩ := (rd_own ho7).op (k := j) hlt2
          cases he7
          have hob := rightB_get (HRB.out o (List.mem_filter.1 (List.mem_of_getElem? hx7)).1)
          have HD := Lib.hid (drop_at hx7)
          obtain ⟨o1, what, item⟩ := o
          simp only at d0 d1 d2 hob
          by_cases hw2 : what = 2
          · subst hw2
            have hit := hob.2.2.2.2.1 (by decide)
            obtain ⟨jj, hjj⟩ : ∃ jj : Nat, item.toNat - 1 = jj := ⟨_, rfl⟩
            have i1 : IntKind.i64.wrap (item - 1) = (jj : Int) := by
              rw [show item - 1 = (jj : Int) by omega]; exact IntWalk.i64_in _ (by omega)
            have i2 : (0 : Int) ≤ (jj : Int) := by omega
            have i3 : (jj : Int) < 6 := by omega
            have i4 : (jj : Int) < ((6 : Nat) : Int) := by omega
            have fz := hB8.frozen jj
            have fc := hB8.cellS (i := jj) (v := .int .i64 lb[jj]) (by unfold cellsI; rw [List.getElem?_map, List.getElem?_eq_getElem (by omega)]; rfl)
            have HS2 : Hid (((ownL h tx).drop (j + 1)).foldl (simStep tx) (lb.set jj tx, acc) = simL tx la (ownL h tx)) := Lib.hid (by
              rw [← HS.out, HD.out, List.foldl_cons]
              congr 1
              unfold simStep
              rw [if_pos rfl, ← hjj])
            have hB8' := hB8.put jj (.int .i64 tx)
            have e8 : (cellsI lb).set jj (.int .i64 tx) = cellsI (lb.set jj tx) := by unfold cellsI; rw [List.map_set]
            rw [e8] at hB8'
            have hB7' := hB7.far (p := ⟨w.heap.size + 1, jj, none⟩) (by simp) (.int .i64 tx)
            have ho7' := own_far ho7 (p := ⟨w.heap.size + 1, jj, none⟩) hl5 (.int .i64 tx)
            have ho8' := own_far ho8 (p := ⟨w.heap.size + 1, jj, none⟩) hl55 (.int .i64 tx)
            have hbw8 := hbw7.setCell (p := ⟨w.heap.size + 1, jj, none⟩) (Nat.le_succ _) (.int .i64 tx)
            have hlb2 : (lb.set jj tx).length = 6 := by rw [List.length_set]; exact hlb
            obtain ⟨b7', off7', o', he7', hb7', hx7', d0', d1', d2'⟩ := (rd_own ho7').op (k := j) hlt2
            cases he7'
            rw [hx7] at hx7'
            cases hx7'
            simp only at d0' d1' d2'
            clear hx7
            go_wp2
            go_roundw
            case rel => exact ⟨kk, j + 1, _, acc, by omega, HKK.out, hkm, by go_num, rfl, hlb2, hB7', hB8', ho7', ho8', HS2, hbw8⟩
            case measure => simp [intOf]; omega
          · by_cases hw1 : what = 1
            · subst hw1
              clear hx7
              have hit := hob.2.2.2.2.1 (by decide)
              obtain ⟨jj, hjj⟩ : ∃ jj : Nat, item.toNat - 1 = jj := ⟨_, rfl⟩
              have i1 : IntKind.i64.wrap (item - 1) = (jj : Int) := by
                rw [show item - 1 = (jj : Int) by omega]; exact IntWalk.i64_in _ (by omega)
              have i2 : (0 : Int) ≤ (jj : Int) := by omega
              have i3 : (jj : Int) < 6 := by omega
              have i4 : (jj : Int) < ((6 : Nat) : Int) := by omega
              have fc := hB8.cellS (i := jj) (v := .int .i64 (lb.getD jj 0)) (by unfold cellsI; rw [List.getElem?_map, List.getElem?_eq_getElem (by omega), List.getD_eq_getElem?_getD, List.getElem?_eq_getElem (by omega)]; rfl)
              have HS2 : Hid (((ownL h tx).drop (j + 1)).foldl (simStep tx) (lb, acc ++ [⟨tx, item, lb.getD jj 0⟩]) = simL tx la (ownL h tx)) := Lib.hid (by
                rw [← HS.out, HD.out, List.foldl_cons]
                congr 1
                unfold simStep
                rw [if_neg (show ¬ (1 : Int) = 2 by decide), if_pos rfl, ← hjj])
              have hs : (ownL seen tx)[kk]? = some ⟨tx, item, lb.getD jj 0⟩ := by
                rw [HKK.out, ← HB2.out.1]
                exact sim_at (laF := (simL tx la (ownL h tx)).1) HS2.out
              have hkm2 : kk < m6 := by
                rw [← hls]; exact (List.getElem?_eq_some_iff.1 hs).1
              obtain ⟨b8, off8, q, he8, hb8, hx8, q0, q1, q2⟩ := (rd_own ho8).op (k := kk) hkm2
              rw [hs] at hx8
              cases hx8
              cases he8
              simp only at q0 q1 q2
              have tg : decide ((m6 : Int) ≤ (kk : Int)) = false := decide_eq_false (by omega)
              have tg2 : decide (m6 ≤ kk) = false := decide_eq_false (by omega)
              have tg3 : decide ((kk : Int) < (m6 : Int)) = true := decide_eq_true (by omega)
              have tg4 : decide (kk < m6) = true := decide_eq_true (by omega)
              have HLEN2 := Lib.hid (show kk + 1 = (acc ++ [(⟨tx, item, lb.getD jj 0⟩ : HOp)]).length from by rw [List.length_append, List.length_singleton, HKK.out])
              clear hs
              generalize lb.getD jj 0 = fr at *
              go_upto_region 15 with fail
              go_quiet (fail)
              go_wp2
              go_roundw
              case rel => exact ⟨kk + 1, j + 1, lb, _, by omega, HLEN2.out, by omega, by go_num, by go_num, hlb, hB7, hB8, ho7, ho8, HS2, below_drewN hbw7 _⟩
              case measure => simp [intOf]; omega
            · clear hx7
              have t1 : (what == 1) = false := by simpa using hw1
              have t2 : (what == 2) = false := by simpa using hw2
              have HS2 : Hid (((ownL h tx).drop (j + 1)).foldl (simStep tx) (lb, acc) = simL tx la (ownL h tx)) := Lib.hid (by
                rw [← HS.out, HD.out, List.foldl_cons]
                congr 1
                unfold simStep
                rw [if_neg hw2, if_neg hw1])
              go_wp2
              go_roundw
              case rel => exact ⟨kk, j + 1, lb, acc, by omega, HKK.out, hkm, by go_num, rfl, hlb, hB7, hB8, ho7, ho8, HS2, hbw7⟩
              case measure => simp [intOf]; omega
        · have HS2 : Hid (kk = m6 ∧ simL tx la (ownL h tx) = (lb, ownL seen tx)) := Lib.hid (by
            have h1 := HS.out
            rw [drop_end (by omega), List.foldl_nil] at h1
            have h2 := HB2.out.1
            rw [← h1] at h2
            simp only at h2
            refine ⟨by rw [HKK.out, h2, hls], by rw [← h1, h2]⟩)
          obtain rfl : kk = m6 := HS2.out.1
          have HB3 : Hid (byL h seen (order.drop (k + 1)) lb = some last) := Lib.hid (by
            have h1 := HB2.out.2
            rw [HS2.out.2] at h1
            exact h1)
          go_wp2
          go_roundw
          case rel => exact ⟨k + 1, lb, by omega, by go_num, hlb, hB7, hB8, HB3, hbw7⟩
          case measure => simp [intOf]; omega
    · have HB2 : Hid (la = last) := Lib.hid (by
        have h1 := HB.out
        rw [drop_end (by rw [HL.out.2.2]; omega), byL] at h1
        exact Option.some.inj h1)
      obtain rfl := HB2.out
      have z2 := hB4.cellS (i := 2) (v := .slice (some ⟨b3, 0, none⟩) 6 6) rfl
      have hri := rd_own (own_blk hB5 (base := 0) (size := 1) (n := 6) (Nat.zero_le _) (by decide) (by unfold cellsI; rw [List.length_map, hla]))
      have CI := hide (ints_any (some ⟨b3, 0, none⟩) (some ⟨w.heap.size + 1, 0, none⟩) 6 6 6 6 la la wo hrl hri (by omega))
      rw [decide_eq_true (rfl : la = la)] at CI
      clear hri hrl hro hrs hrh HB HB2
      go_wp2_with fail
      refine (unhide CI).mono ?_
      rintro e w9 ⟨rfl, hb9⟩
      go_wp2
      go_ret
      exact ⟨rfl, hbw.trans (hb9.mono hbw.size)⟩
end Go.Proofs.Ytigmgeaimcglhaa
