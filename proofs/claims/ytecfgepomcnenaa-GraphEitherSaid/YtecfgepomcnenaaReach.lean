
/-
  CONTRACT of graph.Reach.
-/
import Derived.Test.YtecfgepomcnenaaGraphR
import Derived.Test.YtecfgepomcnenaaQueue
namespace Go.Proofs.Ytecfgepomcnenaa
open Go.RowKit

def bfsIn (d : Int) : List Bool → List Int → List (Int × Int) → List Bool × List Int
  | seen, row, [] => (seen, row)
  | seen, row, e :: t => if e.1 ≠ d ∨ seen.getD e.2.toNat false = true then bfsIn d seen row t else bfsIn d (seen.set e.2.toNat true) (row ++ [e.2]) t
def bfsGo (E : List (Int × Int)) : Nat → List Bool → List Int → List Bool
  | 0, seen, _ => seen
  | _ + 1, seen, [] => seen
  | f + 1, seen, d :: r => bfsGo E f (bfsIn d seen (d :: r) E).1 (bfsIn d seen (d :: r) E).2.tail
def reachF (E : List (Int × Int)) (a b : Int) : Bool := (bfsGo E 8 (List.replicate 7 false) [a]).getD b.toNat false
theorem bfsIn_step {d : Int} {seen : List Bool} {row : List Int} {e : Int × Int} {l t : List (Int × Int)} (h : l = e :: t) : bfsIn d seen row l = if e.1 ≠ d ∨ seen.getD e.2.toNat false = true then bfsIn d seen row t else bfsIn d (seen.set e.2.toNat true) (row ++ [e.2]) t := by rw [h, bfsIn]
def falses (l : List Bool) : Nat := l.countP fun b => !b
theorem falses_set : ∀ {l : List Bool} {i : Nat}, l[i]? = some false → falses (l.set i true) + 1 = falses l
  | [], i, h => by simp at h
  | b :: t, 0, h => by
    obtain rfl : b = false := by simpa using h
    simp [falses]
  | b :: t, i + 1, h => by
    have := falses_set (l := t) (i := i) (by simpa using h)
    unfold falses at this ⊢
    rw [List.set_cons_succ, List.countP_cons, List.countP_cons]; omega
def wfalse (w : World) (g : Nat) : Nat := match w.heap[g]? with
  | some (.cells cur _ _) => cur.toList.countP fun v => match v with | .bool false => true | _ => false
  | _ => 0
theorem wfalse_blk {w : World} {g : Nat} {t : TypeId} {l : List Bool} (h : Blk w g t (l.map .bool)) : wfalse w g = falses l := by
  unfold wfalse
  rw [show w.heap[g]? = _ from h]
  simp only [falses, List.countP_map]
  congr 1
  funext b
  cases b <;> rfl

set_option maxRecDepth 100000 in
set_option maxHeartbeats 4000000 in
theorem reach_ok (A : Option Addr) (n cap : Nat) (E : List (Int × Int)) (a b : Nat) (w : World) (hr : Rd w w.heap.size 2 A n (dcells E)) (hc : checkG E = 0) (ha1 : 1 ≤ a) (ha2 : a ≤ 6) (hb1 : 1 ≤ b) (hb2 : b ≤ 6) :
    Calls Try.prog 16 #[.slice A n cap, .int .i64 a, .int .i64 b] w fun e w' => e = .returned (.tuple #[.bool (reachF E a b), .nilIface]) ∧ Below w.heap.size w w' := by
  have hl := hr.dlen
  have hn60 : n ≤ 60 := by
    unfold checkG at hc
    rw [hl] at hc
    split at hc
    · cases hc
    · omega
  have hTE : ∀ e ∈ E, txB e.1 = true ∧ txB e.2 = true := by
    unfold checkG at hc
    rw [hl, if_neg (by omega)] at hc
    intro e he
    have hnb : E.any badE = false := by
      cases h : E.any badE
      · rfl
      · rw [h] at hc; cases hc
    have := (List.any_eq_false.1 hnb) e he
    unfold badE at this
    cases h1 : txB e.1 <;> cases h2 : txB e.2 <;> simp [h1, h2] at this ⊢
  have HTE := Lib.hid hTE
  have HL := Lib.hid hl
  have C := hide (gcheck_any A n cap E w hr (by omega))
  rw [hc, show errV 0 = .nilIface from rfl] at C
  have T1 := hide (fun w => tx_any (a : Int) w)
  have T2 := hide (fun w => tx_any (b : Int) w)
  rw [show txB (a : Int) = true by simp [txB]; omega] at T1
  rw [show txB (b : Int) = true by simp [txB]; omega] at T2
  have HRF : Hid (reachF E a b = (bfsGo E 8 (List.replicate 7 false) [(a : Int)]).getD b false) := Lib.hid (by unfold reachF; rw [Int.toNat_natCast])
  generalize reachF E a b = R at *
  clear hc hl hTE
  go_enter Try.func16, Try.ntmps16
  go_wp2_with fail
  refine (unhide C).mono ?_
  rintro e w1 ⟨rfl, hb1⟩
  go_wp2_with fail
  refine (unhide T1 _).mono ?_
  rintro e w' ⟨rfl, rfl⟩
  go_wp2_with fail
  refine (unhide T2 _).mono ?_
  rintro e w' ⟨rfl, rfl⟩
  have hS0 := (Blk.new w1 70 ((List.replicate 7 false).map .bool)).alloc (.cells #[.int .i64 a] 3)
  have hQ0 := QOwn.start (base := w1.heap.size + 1) (w1.alloc (.cells ((List.replicate 7 false).map Value.bool).toArray 70)) 3 (a : Int) (by simp)
  rw [show (w1.alloc (.cells ((List.replicate 7 false).map Value.bool).toArray 70)).heap.size = w1.heap.size + 1 by simp] at hQ0
  have hbw0 := (hb1.alloc hb1.size (.cells ((List.replicate 7 false).map Value.bool).toArray 70)).alloc (by simp; have := hb1.size; omega) (.cells #[.int .i64 (a : Int)] 3)
  have hgw : w.heap.size ≤ w1.heap.size := hb1.size
  clear C T1 T2 hb1
  go_wp2
  generalize w1.heap.size = g at *
  go_loopw [10] (fun s10 wr => ∃ (f : Nat) (seen : List Bool) (row : List Int), QOwn wr (g + 1) 3 s10 row ∧ Blk wr g 70 (seen.map .bool) ∧ seen.length = 7 ∧ falses seen + row.length ≤ f ∧ f ≤ 8 ∧ Hid (bfsGo E 8 (List.replicate 7 false) [(a : Int)] = bfsGo E f seen row) ∧ Below w.heap.size w wr) (fun s10 wr => wfalse wr g + lenV s10)
  case atStart => exact ⟨8, List.replicate 7 false, [(a : Int)], hQ0, hS0, rfl, by show falses (List.replicate 7 false) + 1 ≤ 8; decide, Nat.le_refl _, rfl, hbw0⟩
  case round =>
    clear hQ0 hS0 hbw0
    obtain ⟨f, seen, row, hQ, hS, hsl, hfu, hf8, HB, hbw⟩ := hrel
    obtain ⟨ad, c, rfl, hlc, hRd⟩ := hQ.rd
    cases row with
    | nil =>
      have HF : Hid (R = seen.getD b false) := Lib.hid (by
        rw [HRF.out, HB.out]
        cases f <;> rfl)
      have hsb : seen[b]? = some (seen.getD b false) := by rw [List.getD_eq_getElem?_getD, List.getElem?_eq_getElem (by omega)]; rfl
      have c0 := hS.cellS (i := b) (v := .bool (seen.getD b false)) (by rw [List.getElem?_map, hsb]; rfl)
      generalize seen.getD b false = q at *
      clear hRd hQ hS hsb hlc
      go_wp2
      go_ret2
      exact ⟨by rw [HF.out]; rfl, hbw⟩
    | cons d r =>
      obtain ⟨f', rfl⟩ : ∃ f', f = f' + 1 := ⟨f - 1, by simp at hfu; omega⟩
      have HB2 : Hid (bfsGo E 8 (List.replicate 7 false) [(a : Int)] = bfsGo E f' (bfsIn d seen (d :: r) E).1 (bfsIn d seen (d :: r) E).2.tail) := Lib.hid (by rw [HB.out, bfsGo])
      have hws := wfalse_blk hS
      have HWS := Lib.hid hws
      clear HB hws
      obtain ⟨wo, rfl⟩ : ∃ wo : World, wo = wr := ⟨_, rfl⟩
      obtain ⟨n0, hn0⟩ : ∃ n0, (d :: r).length = n0 := ⟨_, rfl⟩
      rw [hn0] at hlc hfu hRd
      rw [hn0]
      have hnr : n0 = r.length + 1 := by rw [← hn0]; rfl
      have HNR := Lib.hid hnr
      have hn8 : n0 ≤ 8 := by omega
      have hn1 : 0 < n0 := by omega
      have hfu2 : falses seen + r.length ≤ f' := by omega
      clear hn0 hnr hRd hfu
      go_wp2
      go_loopw [10, 36] (fun s10 s36 wx => ∃ (i : Nat) (sn : List Bool) (rr : List Int), i ≤ n ∧ s36 = .int .i64 i ∧ QOwn wx (g + 1) 3 s10 (d :: rr) ∧ Blk wx g 70 (sn.map .bool) ∧ sn.length = 7 ∧ falses sn + rr.length = falses seen + r.length ∧ Hid (bfsIn d seen (d :: r) E = bfsIn d sn (d :: rr) (E.drop i)) ∧ Below w.heap.size w wx) (fun _ s36 _ => n - (intOf s36).toNat)
      case atStart => exact ⟨0, seen, r, Nat.zero_le _, rfl, by first | exact hQ | (rw [HNR.out]; exact hQ), hS, hsl, rfl, rfl, hbw⟩
      case round =>
        clear hQ hS hbw hsl
        obtain ⟨i, sn, rr, hi, rfl, hQ, hS, hsl, hcnt, HI, hbx⟩ := hrel
        obtain ⟨ad, c, rfl, hlc, hRd⟩ := hQ.rd
        obtain ⟨b0, o0, x0, he, hb0', hx0, q0⟩ := hRd.int (k := 0) (by simp)
        cases he
        obtain rfl : d = x0 := by simpa using hx0
        rw [Nat.add_zero] at q0
        have hm8 : rr.length + 1 ≤ 8 := by omega
        rw [List.length_cons] at hlc ⊢
        clear hRd hx0
        by_cases hin : i < n
        · obtain ⟨be, oe, e, he, hbe, ho, c0, c1⟩ := (hr.below hbx).pr (k := i) hin
          cases he
          have HS1 := Lib.hid (bfsIn_step (d := d) (seen := sn) (row := d :: rr) (drop_at ho))
          obtain ⟨_, t2⟩ := HTE.out e (List.mem_of_getElem? ho)
          obtain ⟨x, y⟩ := e
          simp only at c0 c1 t2 HS1
          have hy : 1 ≤ y ∧ y ≤ 6 := by simpa [txB] using t2
          obtain ⟨k, rfl⟩ : ∃ k : Nat, y = k := ⟨y.toNat, by omega⟩
          rw [Int.toNat_natCast] at HS1
          have hk0 : (0 : Int) ≤ (k : Int) := by omega
          have hk7 : (k : Int) < 7 := by omega
          have hk7n : k < 7 := by omega
          have hsk : sn[k]? = some (sn.getD k false) := by rw [List.getD_eq_getElem?_getD, List.getElem?_eq_getElem (by omega)]; rfl
          have HSK := Lib.hid hsk
          have hbxa := hbx.alloc hbx.size (.cells #[.int .i64 x, .int .i64 (k : Int)] 43)
          have hSa := hS.alloc (.cells #[.int .i64 x, .int .i64 (k : Int)] 43)
          have hQa := hQ.alloc (.cells #[.int .i64 x, .int .i64 (k : Int)] 43)
          have s0 := hS.cellS (i := k) (v := .bool (sn.getD k false)) (by rw [List.getElem?_map, hsk]; rfl)
          have lS := hS.lt
          have fS := hS.frozen k
          clear ho t2 hy hsk
          by_cases hxd : x = d
          · subst hxd
            have tb : (x != x) = false := by simp
            by_cases hsn : sn.getD k false = true
            · have HI2 : Hid (bfsIn x seen (x :: r) E = bfsIn x sn (x :: rr) (E.drop (i + 1))) := Lib.hid (by rw [HI.out, HS1.out, if_pos (.inr hsn)])
              rw [hsn] at s0
              clear hsn HS1 HI
              go_wp2
              go_quiet (fail)
              go_wp2
              go_roundw
              case rel => exact ⟨i + 1, sn, rr, by omega, by go_num, hQa, hSa, hsl, hcnt, HI2, below_drewN hbxa _⟩
              case measure => simp [intOf]; omega
            · have hsf : sn.getD k false = false := by simpa using hsn
              have HI2 : Hid (bfsIn x seen (x :: r) E = bfsIn x (sn.set k true) (x :: (rr ++ [(k : Int)])) (E.drop (i + 1))) := Lib.hid (by rw [HI.out, HS1.out, if_neg (by rintro (h | h); exact h rfl; exact hsn h)]; rfl)
              have hcnt2 : falses (sn.set k true) + (rr ++ [(k : Int)]).length = falses seen + r.length := by
                have h1 := falses_set (l := sn) (i := k) (by rw [HSK.out, hsf])
                rw [List.length_append, List.length_singleton]; omega
              rw [hsf] at s0
              have HS2 := hide (fun q => (show Blk ((wr.alloc (.cells #[.int .i64 x, .int .i64 (k : Int)] 43)).drewN q) g 70 (sn.map .bool) from hSa).put k (.bool true))
              have HQ2 := hide (fun q => (hQa.drewN q).far (p := ⟨g, k, none⟩) (Nat.lt_succ_self g) (.bool true))
              have HB2' := hide (fun q => (below_drewN hbxa q).setCell (p := ⟨g, k, none⟩) hgw (.bool true))
              clear hsf hsn HS1 HI
              go_wp2
              go_quiet (fail)
              go_wp2_with (at_builtin; (refine wpList_qapp rfl (.tmp 55) (.tmp 58) _ rfl (g + 1) slt_ints (l := x :: rr) (y := (k : Int)) rfl ((HQ2.out _).alloc _) rfl (by first | (simp; done) | (rw [World.cell?_alloc_at _ _ _ _ (by simp)]; rfl)) (by simp; omega) (by simp; omega) ?_; intro v5 w5 hQ5 hb5))
              have hS5 := ((HS2.out _).alloc _).below hb5 (Nat.lt_succ_self g)
              rw [← List.map_set] at hS5
              have hzx := hbx.size
              have hbw5 := ((HB2'.out _).alloc (by simp; omega) _).trans (hb5.mono (by omega))
              go_roundw
              case rel => exact ⟨i + 1, sn.set k true, rr ++ [(k : Int)], by omega, by go_num, hQ5, hS5, by rw [List.length_set]; exact hsl, hcnt2, HI2, hbw5⟩
              case measure => simp [intOf]; omega
          · have HI2 : Hid (bfsIn d seen (d :: r) E = bfsIn d sn (d :: rr) (E.drop (i + 1))) := Lib.hid (by rw [HI.out, HS1.out, if_pos (.inl hxd)])
            have tb : (x != d) = true := by simpa using hxd
            clear hxd HS1 HI
            go_wp2
            go_quiet (fail)
            go_wp2
            go_roundw
            case rel => exact ⟨i + 1, sn, rr, by omega, by go_num, hQa, hSa, hsl, hcnt, HI2, below_drewN hbxa _⟩
            case measure => simp [intOf]; omega
        · have HB3 : Hid (bfsGo E 8 (List.replicate 7 false) [(a : Int)] = bfsGo E f' sn rr) := Lib.hid (by
            have e : E.drop i = [] := drop_end (by rw [HL.out]; omega)
            rw [HB2.out, HI.out, e, bfsIn]; rfl)
          obtain ⟨_, hc1, htA, htB⟩ := hQ.tail
          rw [List.length_cons, Nat.add_sub_cancel] at htA htB
          have hfin : falses sn + rr.length ≤ f' := by omega
          have HWF := Lib.hid (wfalse_blk hS)
          have HCN := Lib.hid hcnt
          have hl1 : (1 : Int) ≤ (rr.length : Int) + 1 := by omega
          have hl2 : (rr.length : Int) + 1 ≤ (c : Int) := by omega
          by_cases hc1' : c = 1
          · have hQ' := htA hc1'
            subst hc1'
            have hr0 : rr.length = 0 := by omega
            clear htA htB HI hcnt q0 hQ
            obtain rfl : rr = [] := List.eq_nil_of_length_eq_zero hr0
            go_wp2
            go_roundw
            case rel => exact ⟨f', sn, [], by simpa using hQ', hS, hsl, hfin, by omega, HB3, hbx⟩
            case measure => rw [HWF.out, HWS.out]; simp [lenV]; have h1 := HCN.out; have h2 := HNR.out; omega
          · have hQ' := htB hc1'
            clear htA htB HI hcnt q0 hQ
            go_wp2
            go_roundw
            case rel => exact ⟨f', sn, rr, by simpa using hQ', hS, hsl, hfin, by omega, HB3, hbx⟩
            case measure => rw [HWF.out, HWS.out]; simp [lenV]; have h1 := HCN.out; have h2 := HNR.out; omega
end Go.Proofs.Ytecfgepomcnenaa
