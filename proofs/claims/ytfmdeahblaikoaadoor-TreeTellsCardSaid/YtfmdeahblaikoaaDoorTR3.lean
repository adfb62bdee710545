
/-
  CONTRACTS of the reference's laneref2.Tree, GripEdges.
  CONTRACT of the reference's laneref2.Grips: three arrays against the state of a tree.
-/
import Derived.Test.YtfmdeahblaikoaaDoorTreeE
import Derived.Test.YtfmdeahblaikoaaDoorRR1
import Derived.Test.YtfmdeahblaikoaaDoorN1
import Derived.StillTailTactics
import Derived.Deep.QuietTactic

namespace Go.Proofs.YtfmdeahblaikoaaDoor
open Go.RowKit

set_option maxHeartbeats 1000000 in
theorem rtree_any (Au : Option Addr) (nu cu : Nat) (up : List Int) (w : World) (B : Nat) (hu : Rd w B 1 Au nu (cellsI up)) :
    Calls Tryd.prog 22 #[.slice Au nu cu] w fun e w' => e = .returned (.int .i64 (treeE up)) ∧ w = w' := by
  have hl := hu.ilen
  by_cases h0 : nu = 0
  · subst h0
    have HG : Hid (treeE up = 1) := Lib.hid (by unfold treeE; rw [if_pos (by omega)])
    clear hl
    go_enter Tryd.func22, Tryd.ntmps22
    go_wp2
    go_ret
    exact ⟨ret_int HG.out.symm, rfl⟩
  by_cases h6 : 6 < nu
  · have HG : Hid (treeE up = 1) := Lib.hid (by unfold treeE; rw [if_pos (by omega)])
    have h1 : ¬ nu < 1 := by omega
    clear hl
    go_enter Tryd.func22, Tryd.ntmps22
    go_wp2
    go_ret
    exact ⟨ret_int HG.out.symm, rfl⟩
  obtain ⟨b, off, x, he, hb, hx, c0⟩ := hu.int (k := 0) (by omega)
  cases he
  have hh : up.headD 0 = x := by
    cases up with
    | nil => simp at hx
    | cons a t => simpa using hx
  rw [Nat.add_zero] at c0
  have h1 : ¬ nu < 1 := by omega
  by_cases hx0 : x = 0
  · have HG : Hid (treeE up = treeGo 0 (up.tail.drop 0)) := Lib.hid (by unfold treeE; rw [if_neg (by omega), if_neg (by rw [hh]; exact fun e => e hx0)]; rfl)
    have tx : (x != 0) = false := by simp [hx0]
    have HL := Lib.hid hl
    have hu' := hide hu
    clear hl hh hx0 hx
    go_enter Tryd.func22, Tryd.ntmps22
    go_wp2
    go_loop [3] (fun s3 => ∃ k : Nat, k + 1 ≤ nu ∧ s3 = .int .i64 ((k : Int) + 1) ∧ Hid (treeE up = treeGo k (up.tail.drop k))) (fun s3 => nu - (intOf s3).toNat)
    case atStart => exact ⟨0, by omega, rfl, HG⟩
    case round =>
      obtain ⟨k, hk, rfl, HE⟩ := hrel
      by_cases hlt : k + 1 < nu
      · obtain ⟨b2, off2, y, he2, hb2, hy, d0⟩ := (unhide hu').int (k := k + 1) hlt
        cases he2
        have hy2 : up.tail[k]? = some y := by rw [List.getElem?_tail]; exact hy
        have HS := Lib.hid (treeGo_step (i := k) (drop_at hy2))
        have q0 : (k : Int) + 1 < (nu : Int) := by omega
        clear hy hy2
        by_cases q1 : y < 1
        · have HF : Hid (treeE up = 1) := Lib.hid (by rw [HE.out, HS.out, if_neg (by omega)])
          go_wp2
          go_ret
          exact ⟨ret_int HF.out.symm, rfl⟩
        · by_cases q2 : y ≤ (k : Int) + 1
          · have HF : Hid (treeE up = treeGo (k + 1) (up.tail.drop (k + 1))) := Lib.hid (by rw [HE.out, HS.out, if_pos ⟨by omega, q2⟩])
            have q3 : ¬ (k : Int) + 1 < y := by omega
            go_wp2
            go_round
            case rel => exact ⟨k + 1, by omega, by go_num, HF⟩
            case measure => simp [intOf]; omega
          · have HF : Hid (treeE up = 1) := Lib.hid (by rw [HE.out, HS.out, if_neg (by omega)])
            have q3 : (k : Int) + 1 < y := by omega
            go_wp2
            go_ret
            exact ⟨ret_int HF.out.symm, rfl⟩
      · have HF : Hid (treeE up = 0) := Lib.hid (by rw [HE.out]; exact treeGo_end (drop_end (by rw [List.length_tail, HL.out]; omega)))
        have q0 : ¬ (k : Int) + 1 < (nu : Int) := by omega
        go_wp2
        go_ret
        exact ⟨ret_int HF.out.symm, rfl⟩
  · have HG : Hid (treeE up = 3) := Lib.hid (by unfold treeE; rw [if_neg (by omega), if_pos (by rw [hh]; exact hx0)])
    have tx : (x != 0) = true := by simp [hx0]
    clear hl hx0 hh hx
    go_enter Tryd.func22, Tryd.ntmps22
    go_wp2
    go_ret
    exact ⟨ret_int HG.out.symm, rfl⟩

set_option maxRecDepth 100000 in
set_option maxHeartbeats 8000000 in
theorem rgripEdges_any (Al : Option Addr) (nl cl : Nat) (l : List GOp) (w : World) (hr : Rd w w.heap.size 3 Al nl (cellsG l)) (h40 : nl ≤ 40) :
    Calls Tryd.prog 26 #[.slice Al nl cl] w fun e w' => ∃ A' m c', e = .returned (.slice A' m c') ∧ Rd w' w'.heap.size 2 A' m (dcells (edgesG l)) ∧ m ≤ 2000 ∧ Below w.heap.size w w' := by
  have HR := hide (fun w' (hb : Below w.heap.size w w') => hr.below hb)
  have HL := Lib.hid hr.glen
  have HF : Hid (edgesG l = sortGo ltE [] (rawG (l.drop 0))) := Lib.hid rfl
  have hb0 : Below w.heap.size w w := Below.refl _ _
  clear hr
  generalize edgesG l = R at *
  go_enter Tryd.func26, Tryd.ntmps26
  go_wp2
  go_loopw [3, 4, 5] (fun s3 s4 _ wr => ∃ (i m c3 : Nat) (A3 : Option Addr) (acc : List (Int × Int)), i ≤ nl ∧ s4 = .int .i64 i ∧ s3 = .slice A3 m c3 ∧ m ≤ c3 ∧ Rd wr wr.heap.size 2 A3 m (dcells acc) ∧ m ≤ i * 40 ∧ Hid (R = sortGo ltE acc (rawG (l.drop i))) ∧ Below w.heap.size w wr) (fun _ s4 _ _ => nl - (intOf s4).toNat)
  case atStart => exact ⟨0, 0, 0, none, [], Nat.zero_le _, rfl, rfl, Nat.le_refl _, Rd.nil, Nat.zero_le _, HF, hb0⟩
  case round =>
    clear HF hb0
    obtain ⟨i, m, c3, A3, acc, hi, rfl, rfl, hmc, hd3, hmi, HE, hbw⟩ := hrel
    by_cases hlt : i < nl
    · have hoi : l[i]? = some (l[i]'(by rw [HL.out]; exact hlt)) := List.getElem?_eq_getElem _
      generalize l[i]'(by rw [HL.out]; exact hlt) = a at *
      have HOI := Lib.hid hoi
      obtain ⟨REST, hREST⟩ : ∃ REST, rawG (l.drop (i + 1)) = REST := ⟨_, rfl⟩
      have HE2 : Hid (R = sortGo ltE acc (rowG a (l.drop (i + 1)) ++ REST)) := Lib.hid (by rw [HE.out, rawG_step (drop_at hoi), hREST])
      have HRT := Lib.hid hREST
      clear hoi HE hREST
      go_wp2
      go_loopw [3, 5] (fun s3 s5 wx => ∃ (k m c3 : Nat) (A3 : Option Addr) (acc : List (Int × Int)), i + 1 ≤ k ∧ k ≤ nl ∧ s5 = .int .i64 k ∧ s3 = .slice A3 m c3 ∧ m ≤ c3 ∧ Rd wx wx.heap.size 2 A3 m (dcells acc) ∧ m ≤ i * 40 + k ∧ Hid (R = sortGo ltE acc (rowG a (l.drop k) ++ REST)) ∧ Below w.heap.size w wx) (fun _ s5 _ => nl - (intOf s5).toNat)
      case atStart => exact ⟨i + 1, m, c3, A3, acc, Nat.le_refl _, by omega, by go_num, rfl, hmc, hd3, by omega, HE2, hbw⟩
      case round =>
        clear HE2 hd3 hbw hmc hmi
        obtain ⟨k, m, c3, A3, acc, hk1, hk2, rfl, rfl, hmc, hd3, hmk, HE, hbw⟩ := hrel
        by_cases hlk : k < nl
        · obtain ⟨b, off, o1, he, hb, ho1, c0, c1, c2⟩ := (unhide HR wr hbw).grip (k := i) hlt
          cases he
          rw [HOI.out] at ho1
          cases ho1
          obtain ⟨_, _, o2, he, _, ho2, d0, d1, d2⟩ := (unhide HR wr hbw).grip (k := k) hlk
          cases he
          have HS := Lib.hid (rowG_step (a := a) (drop_at ho2))
          clear ho2
          obtain ⟨p1, p2, p3⟩ := o2
          obtain ⟨a1, a2, a3⟩ := a
          simp only at c0 c1 c2 d0 d1 d2
          have n0 : (0 : Int) ≤ (i : Int) := by omega
          have n1' : (i : Int) < (nl : Int) := by omega
          have n2 : (0 : Int) ≤ (k : Int) := by omega
          have n3 : (k : Int) < (nl : Int) := by omega
          have hm9 : m ≤ 2000 := by omega
          cases a3
          · have HE3 : Hid (R = sortGo ltE acc (rowG ⟨a1, a2, false⟩ (l.drop (k + 1)) ++ REST)) := Lib.hid (by rw [HE.out, HS.out, if_neg (by simp [pairG])])
            clear HE HS
            go_wp2
            go_quiet (fail)
            go_wp2
            go_roundw
            case rel => exact ⟨k + 1, m, c3, A3, acc, by omega, by omega, by go_num, rfl, hmc, hd3, by omega, HE3, below_drewN hbw _⟩
            case measure => simp [intOf]; omega
          · cases p3
            · have HE3 : Hid (R = sortGo ltE acc (rowG ⟨a1, a2, true⟩ (l.drop (k + 1)) ++ REST)) := Lib.hid (by rw [HE.out, HS.out, if_neg (by simp [pairG])])
              clear HE HS
              go_wp2
              go_quiet (fail)
              go_wp2
              go_roundw
              case rel => exact ⟨k + 1, m, c3, A3, acc, by omega, by omega, by go_num, rfl, hmc, hd3, by omega, HE3, below_drewN hbw _⟩
              case measure => simp [intOf]; omega
            · by_cases hi2 : a2 = p2
              · have ti : (a2 == p2) = true := by simp [hi2]
                have HE3 : Hid (R = sortGo ltE (insS ltE (a1, p1) acc) (rowG ⟨a1, a2, true⟩ (l.drop (k + 1)) ++ REST)) := Lib.hid (by rw [HE.out, HS.out, if_pos (by simp [pairG, hi2])]; rfl)
                have CAdd := hide (fun N => radd_any A3 m c3 acc a1 p1 (wr.drewN N).drew hd3 (by omega) hmc)
                have HBN := hide (fun N => below_drewN hbw N)
                clear HE HS hd3 hbw hi2
                go_wp2
                go_quiet (fail)
                have c0q : (wr.drewN nq).cell? ⟨b, off + i * 3, none⟩ = some (.int .i64 a1) := c0
                have d0q : (wr.drewN nq).cell? ⟨b, off + k * 3, none⟩ = some (.int .i64 p1) := d0
                have CA2 := hide (unhide CAdd nq)
                have hbn := (unhide HBN nq).drew
                clear c0 c1 c2 d0 d1 d2 CAdd HBN
                generalize wr.drewN nq = wq at *
                go_wp2
                go_still_tail 12, (by kernel_rfl)
                change wpList _ _ _ _ _ wq.drew
                go_wp2_with fail
                refine (unhide CA2).mono ?_
                rintro e wz ⟨A', n', c', rfl, hnc, hdz, hnn, hbz⟩
                have hbwz := hbn.trans (hbz.mono hbn.size)
                go_wp2
                go_roundw
                case rel => exact ⟨k + 1, n', c', A', _, by omega, by omega, by go_num, rfl, hnc, hdz, by omega, HE3, hbwz⟩
                case measure => simp [intOf]; omega
              · have ti : (a2 == p2) = false := by simp [hi2]
                have HE3 : Hid (R = sortGo ltE acc (rowG ⟨a1, a2, true⟩ (l.drop (k + 1)) ++ REST)) := Lib.hid (by rw [HE.out, HS.out, if_neg (by simp [pairG, hi2])])
                clear HE HS hi2
                go_wp2
                go_quiet (fail)
                go_wp2
                go_roundw
                case rel => exact ⟨k + 1, m, c3, A3, acc, by omega, by omega, by go_num, rfl, hmc, hd3, by omega, HE3, below_drewN hbw _⟩
                case measure => simp [intOf]; omega
        · have HE3 : Hid (R = sortGo ltE acc (rawG (l.drop (i + 1)))) := Lib.hid (by
            have e : l.drop k = [] := drop_end (by rw [HL.out]; omega)
            rw [HRT.out, HE.out, e]; rfl)
          clear HE
          go_wp2
          go_roundw
          case rel => exact ⟨i + 1, m, c3, A3, acc, by omega, by go_num, rfl, hmc, hd3, by omega, HE3, hbw⟩
          case measure => simp [intOf]; omega
    · have HT : Hid (R = acc) := Lib.hid (by rw [HE.out, drop_end (by rw [HL.out]; omega)]; rfl)
      have HD := hide hd3
      clear HE hd3
      go_wp2
      go_ret
      exact ⟨A3, m, c3, rfl, by rw [HT.out]; exact unhide HD, by omega, hbw⟩
end Go.Proofs.YtfmdeahblaikoaaDoor


namespace Go.Proofs.YtfmdeahblaikoaaDoor
open Go.RowKit

def flat7 (f : Int → Int → Value) : List Value := sevenT.flatMap fun t => sevenT.map (f t)
theorem flat7_at (f : Int → Int → Value) {t i : Nat} (ht : t ≤ 6) (hi : i ≤ 6) : (flat7 f)[t * 7 + i]? = some (f t i) := by
  have h1 : t = 0 ∨ t = 1 ∨ t = 2 ∨ t = 3 ∨ t = 4 ∨ t = 5 ∨ t = 6 := by omega
  have h2 : i = 0 ∨ i = 1 ∨ i = 2 ∨ i = 3 ∨ i = 4 ∨ i = 5 ∨ i = 6 := by omega
  rcases h1 with rfl | rfl | rfl | rfl | rfl | rfl | rfl <;> rcases h2 with rfl | rfl | rfl | rfl | rfl | rfl | rfl <;> rfl
theorem flat7_set (f : Int → Int → Value) {t i : Nat} (ht : t ≤ 6) (hi : i ≤ 6) (v : Value) : (flat7 f).set (t * 7 + i) v = flat7 (fun a b => if a = (t : Int) ∧ b = (i : Int) then v else f a b) := by
  have h1 : t = 0 ∨ t = 1 ∨ t = 2 ∨ t = 3 ∨ t = 4 ∨ t = 5 ∨ t = 6 := by omega
  have h2 : i = 0 ∨ i = 1 ∨ i = 2 ∨ i = 3 ∨ i = 4 ∨ i = 5 ∨ i = 6 := by omega
  rcases h1 with rfl | rfl | rfl | rfl | rfl | rfl | rfl <;> rcases h2 with rfl | rfl | rfl | rfl | rfl | rfl | rfl <;> rfl
def holdC (s : TSt) : List Value := sevenT.map fun i => .int .i64 (s.hold i)
def hadC (s : TSt) : List Value := flat7 fun t i => .bool (decide (i ∈ s.had t))
def firstC (s : TSt) : List Value := sevenT.map fun t => .bool (decide (s.had t ≠ []))
/-- The three arrays. -/
structure GrH (w : World) (b : Nat) (s : TSt) : Prop where
  hold : Blk w b 111 (holdC s)
  had : Blk w (b + 1) 113 (hadC s)
  first : Blk w (b + 1 + 1) 112 (firstC s)
section
variable {w w' : World} {b : Nat} {s : TSt}
theorem GrH.below (h : GrH w b s) (hb : Below w.heap.size w w') : GrH w' b s := ⟨h.hold.below hb h.hold.lt, h.had.below hb h.had.lt, h.first.below hb h.first.lt⟩
theorem grH_new (w : World) : GrH (((w.alloc (.cells (holdC ts0).toArray 111)).alloc (.cells (hadC ts0).toArray 113)).alloc (.cells (firstC ts0).toArray 112)) w.heap.size ts0 := by
  refine ⟨((Blk.new w _ _).alloc _).alloc _, ?_, ?_⟩
  · have := (Blk.new (w.alloc (.cells (holdC ts0).toArray 111)) 113 (hadC ts0)).alloc (.cells (firstC ts0).toArray 112)
    simp at this
    exact this
  · have := Blk.new ((w.alloc (.cells (holdC ts0).toArray 111)).alloc (.cells (hadC ts0).toArray 113)) 112 (firstC ts0)
    simp at this
    exact this
theorem GrH.free (h : GrH w b s) {i : Nat} (hi : i ≤ 6) : GrH (w.setCell ⟨b, i, none⟩ (.int .i64 0)) b { s with hold := updF s.hold i 0 } := by
  refine ⟨?_, h.had.far (p := ⟨b, i, none⟩) (by show b + 1 ≠ b; omega) _, h.first.far (p := ⟨b, i, none⟩) (by show b + 1 + 1 ≠ b; omega) _⟩
  have h1 := h.hold.put i (.int .i64 0)
  have e := seven_set (fun j => Value.int .i64 (s.hold j)) (t := (i : Int)) (by omega) (by omega) (.int .i64 0)
  rw [Int.toNat_natCast] at e
  have e2 : holdC { s with hold := updF s.hold i 0 } = sevenT.map (updF (fun j => Value.int .i64 (s.hold j)) i (.int .i64 0)) := by
    unfold holdC
    refine List.map_congr_left fun j _ => ?_
    show Value.int .i64 (updF s.hold i 0 j) = _
    by_cases hj : j = (i : Int)
    · subst hj; rw [updF_self, updF_self]
    · rw [updF_ne _ _ hj, updF_ne _ _ hj]
  rw [e2, ← e]
  exact h1
theorem GrH.take (h : GrH w b s) {t i : Nat} (ht : t ≤ 6) (hi : i ≤ 6) : GrH (((w.setCell ⟨b, i, none⟩ (.int .i64 t)).setCell ⟨b + 1, t * 7 + i, none⟩ (.bool true)).setCell ⟨b + 1 + 1, t, none⟩ (.bool true)) b ⟨updF s.hold i t, updF s.had t (s.had t ++ [(i : Int)])⟩ := by
  refine ⟨?_, ?_, ?_⟩
  · have h1 := ((h.hold.put i (.int .i64 t)).far (p := ⟨b + 1, t * 7 + i, none⟩) (by show b ≠ b + 1; omega) (.bool true)).far (p := ⟨b + 1 + 1, t, none⟩) (by show b ≠ b + 1 + 1; omega) (.bool true)
    have e := seven_set (fun j => Value.int .i64 (s.hold j)) (t := (i : Int)) (by omega) (by omega) (.int .i64 t)
    rw [Int.toNat_natCast] at e
    have e2 : holdC ⟨updF s.hold i t, updF s.had t (s.had t ++ [(i : Int)])⟩ = sevenT.map (updF (fun j => Value.int .i64 (s.hold j)) i (.int .i64 t)) := by
      unfold holdC
      refine List.map_congr_left fun j _ => ?_
      show Value.int .i64 (updF s.hold i t j) = _
      by_cases hj : j = (i : Int)
      · subst hj; rw [updF_self, updF_self]
      · rw [updF_ne _ _ hj, updF_ne _ _ hj]
    rw [e2, ← e]
    exact h1
  · have h1 := ((h.had.far (p := ⟨b, i, none⟩) (by show b + 1 ≠ b; omega) (.int .i64 t)).put (t * 7 + i) (.bool true)).far (p := ⟨b + 1 + 1, t, none⟩) (by show b + 1 ≠ b + 1 + 1; omega) (.bool true)
    unfold hadC at h1 ⊢
    rw [flat7_set _ ht hi] at h1
    have e : (fun a c : Int => Value.bool (decide (c ∈ updF s.had t (s.had t ++ [(i : Int)]) a))) = fun a c => if a = (t : Int) ∧ c = (i : Int) then Value.bool true else .bool (decide (c ∈ s.had a)) := by
      funext a c
      by_cases ha : a = (t : Int)
      · subst ha
        rw [updF_self]
        by_cases hc : c = (i : Int)
        · rw [if_pos ⟨rfl, hc⟩, hc]; simp
        · rw [if_neg (fun e => hc e.2)]; simp [hc]
      · rw [updF_ne _ _ ha, if_neg (fun e => ha e.1)]
    show Blk _ _ _ (flat7 fun a c => Value.bool (decide (c ∈ updF s.had t (s.had t ++ [(i : Int)]) a)))
    rw [e]
    exact h1
  · have h1 := ((h.first.far (p := ⟨b, i, none⟩) (by show b + 1 + 1 ≠ b; omega) (.int .i64 t)).far (p := ⟨b + 1, t * 7 + i, none⟩) (by show b + 1 + 1 ≠ b + 1; omega) (.bool true)).put t (.bool true)
    have e := seven_set (fun j => Value.bool (decide (s.had j ≠ []))) (t := (t : Int)) (by omega) (by omega) (.bool true)
    rw [Int.toNat_natCast] at e
    have e2 : firstC ⟨updF s.hold i t, updF s.had t (s.had t ++ [(i : Int)])⟩ = sevenT.map (updF (fun j => Value.bool (decide (s.had j ≠ []))) t (.bool true)) := by
      unfold firstC
      refine List.map_congr_left fun j _ => ?_
      show Value.bool (decide (updF s.had t (s.had t ++ [(i : Int)]) j ≠ [])) = _
      by_cases hj : j = (t : Int)
      · subst hj; rw [updF_self, updF_self]; simp
      · rw [updF_ne _ _ hj, updF_ne _ _ hj]
    rw [e2, ← e]
    exact h1
theorem holdC_at {i : Nat} (hi : i ≤ 6) : (holdC s)[i]? = some (.int .i64 (s.hold i)) := by
  have := sevenT_at (t := (i : Int)) (by omega) (by omega)
  rw [Int.toNat_natCast] at this
  unfold holdC; rw [List.getElem?_map, this]; rfl
theorem hadC_at {t i : Nat} (ht : t ≤ 6) (hi : i ≤ 6) : (hadC s)[t * 7 + i]? = some (.bool (decide ((i : Int) ∈ s.had t))) := flat7_at _ ht hi
theorem firstC_at {t : Nat} (ht : t ≤ 6) : (firstC s)[t]? = some (.bool (decide (s.had t ≠ []))) := by
  have := sevenT_at (t := (t : Int)) (by omega) (by omega)
  rw [Int.toNat_natCast] at this
  unfold firstC; rw [List.getElem?_map, this]; rfl
end

theorem tree_up {up : List Int} (h : treeE up = 0) {k : Nat} (hk : 1 ≤ k) {x : Int} (hx : up[k]? = some x) : 1 ≤ x ∧ x ≤ (k : Int) := by
  unfold treeE at h
  split at h
  · cases h
  · split at h
    · cases h
    · cases up with
      | nil => cases hx
      | cons a t =>
        obtain ⟨j, rfl⟩ : ∃ j, k = j + 1 := ⟨k - 1, by omega⟩
        rw [List.getElem?_cons_succ] at hx
        have := treeGo_le t 0 h j x hx
        omega
theorem upF_at {up : List Int} {k : Nat} {x : Int} (hx : up[k]? = some x) : upF up ((k : Int) + 1) = x := by
  unfold upF
  rw [show ((k : Int) + 1).toNat - 1 = k by omega, List.getD_eq_getElem?_getD, hx]; rfl
theorem gripF_off {up : List Int} {s : TSt} {t i : Int} : gripF up s ⟨t, i, false⟩ = if s.hold i ≠ t then (5, s) else (0, { s with hold := updF s.hold i 0 }) := rfl
theorem gripF_on {up : List Int} {s : TSt} {t i : Int} : gripF up s ⟨t, i, true⟩ = if s.hold i ≠ 0 then (7, s) else if i ∈ s.had t then (6, s) else if s.had t ≠ [] ∧ (i = 1 ∨ s.hold (upF up i) ≠ t) then (6, s) else (0, ⟨updF s.hold i t, updF s.had t (s.had t ++ [i])⟩) := rfl

set_option maxRecDepth 100000 in
set_option maxHeartbeats 8000000 in
theorem rgrips_any (Au : Option Addr) (nu cu : Nat) (up : List Int) (Al : Option Addr) (nl cl : Nat) (l : List GOp) (w : World) (hu : Rd w w.heap.size 1 Au nu (cellsI up)) (hr : Rd w w.heap.size 3 Al nl (cellsG l)) :
    Calls Tryd.prog 24 #[.slice Au nu cu, .slice Al nl cl] w fun e w' => e = .returned (.tuple #[.int .i64 (legalF up l).1, .int .i64 (legalF up l).2]) ∧ Below w.heap.size w w' := by
  have CT := hide (rtree_any Au nu cu up w w.heap.size hu)
  have HUL := Lib.hid hu.ilen
  have HLL := Lib.hid hr.glen
  by_cases hte : treeE up = 0
  · rw [hte] at CT
    have hn6 : nu ≤ 6 := by
      have : ¬ 6 < nu := fun h => by
        unfold treeE at hte
        rw [if_pos (.inr (by rw [HUL.out]; exact h))] at hte
        cases hte
      omega
    by_cases h40 : 40 < nl
    · have HG : Hid (legalF up l = (0, 4)) := Lib.hid (by unfold legalF; rw [if_neg (fun e => e hte), if_pos (by rw [HLL.out]; exact h40)])
      clear hte hu hr
      go_enter Tryd.func24, Tryd.ntmps24
      go_wp2_with fail
      refine (unhide CT).mono ?_
      rintro e w1 ⟨rfl, rfl⟩
      go_wp2
      go_ret2
      exact ⟨by rw [HG.out]; rfl, Below.refl _ _⟩
    · have HG : Hid (legalF up l = gripsGo up 0 ts0 (l.drop 0)) := Lib.hid (by unfold legalF; rw [if_neg (fun e => e hte), if_neg (by rw [HLL.out]; exact h40)]; rfl)
      have HU := hide (fun w' (hb : Below w.heap.size w w') => hu.below hb)
      have HR := hide (fun w' (hb : Below w.heap.size w w') => hr.below hb)
      have HT0 := hide (grH_new w)
      have hb0 : Below w.heap.size w (((w.alloc (.cells (holdC ts0).toArray 111)).alloc (.cells (hadC ts0).toArray 113)).alloc (.cells (firstC ts0).toArray 112)) := (((Below.refl _ _).alloc (Nat.le_refl _) _).alloc (by simp) _).alloc (by simp; omega) _
      have HB0 := hide hb0
      have HTE := Lib.hid hte
      clear hte hu hr hb0
      go_enter Tryd.func24, Tryd.ntmps24
      go_wp2_with fail
      refine (unhide CT).mono ?_
      rintro e w1 ⟨rfl, rfl⟩
      go_wp2
      go_loopw [10, 11, 12] (fun s10 _ _ wr => ∃ (k : Nat) (s : TSt), k ≤ nl ∧ s10 = .int .i64 k ∧ GrH wr w.heap.size s ∧ Hid (legalF up l = gripsGo up k s (l.drop k)) ∧ Below w.heap.size w wr) (fun s10 _ _ _ => nl - (intOf s10).toNat)
      case atStart => exact ⟨0, ts0, Nat.zero_le _, rfl, unhide HT0, HG, unhide HB0⟩
      case round =>
        clear HG HT0 HB0
        obtain ⟨k, s, hk, rfl, hT, HE, hbw⟩ := hrel
        by_cases hlt : k < nl
        · obtain ⟨b, off, q, he, hb, hq, c0, c1, c2⟩ := (unhide HR wr hbw).grip (k := k) hlt
          cases he
          have HS := Lib.hid (gripsGo_step (up := up) (i := k) (s := s) (drop_at hq))
          obtain ⟨tx, item, lock⟩ := q
          simp only at c0 c1 c2 HS
          have hbx : Below wr.heap.size wr (wr.alloc (.cells #[.int .i64 tx, .int .i64 item, .bool lock] 115)) := (Below.refl _ _).alloc (Nat.le_refl _) _
          have hlt3 := hT.first.lt
          have hT1 := hT.below hbx
          have hbw1 := hbw.trans (hbx.mono hbw.size)
          have hBx := Blk.new wr 115 [.int .i64 tx, .int .i64 item, .bool lock]
          have HLE := HE
          have CX := hide (rtx_any tx (wr.alloc (.cells #[.int .i64 tx, .int .i64 item, .bool lock] 115)))
          have x0 := hBx.cellS (i := 0) (v := .int .i64 tx) rfl
          have x1 := hBx.cellS (i := 1) (v := .int .i64 item) rfl
          have x2 := hBx.cellS (i := 2) (v := .bool lock) rfl
          clear hq hT hbx HE
          by_cases hgb : gripB up.length ⟨tx, item, lock⟩ = false
          · have HF : Hid (legalF up l = ((k : Int), 1)) := Lib.hid (by rw [HLE.out, HS.out, if_pos hgb])
            have hgb2 : txB tx = true → 1 ≤ item → ¬ item ≤ (nu : Int) := fun e1 e2 e3 => by
              simp only [gripB, e1, Bool.true_and, decide_eq_false_iff_not] at hgb
              exact hgb ⟨e2, by rw [HUL.out]; exact e3⟩
            have HGB := Lib.hid hgb2
            obtain ⟨p, hp⟩ : ∃ p : Bool, txB tx = p := ⟨_, rfl⟩
            rw [hp] at CX
            have HP := Lib.hid hp
            clear hgb hgb2 hp HS HLE hT1 hBx
            cases p
            · go_wp2_with fail
              refine (unhide CX).mono ?_
              rintro e w3 ⟨rfl, rfl⟩
              go_wp2
              go_ret2
              exact ⟨by rw [HF.out]; rfl, hbw1⟩
            · by_cases h1 : item < 1
              · go_wp2_with fail
                refine (unhide CX).mono ?_
                rintro e w3 ⟨rfl, rfl⟩
                go_wp2
                go_ret2
                exact ⟨by rw [HF.out]; rfl, hbw1⟩
              · have h2 : (nu : Int) < item := by have := HGB.out HP.out (by omega); omega
                go_wp2_with fail
                refine (unhide CX).mono ?_
                rintro e w3 ⟨rfl, rfl⟩
                go_wp2
                go_ret2
                exact ⟨by rw [HF.out]; rfl, hbw1⟩
          · have hgb' : gripB up.length ⟨tx, item, lock⟩ = true := by simpa using hgb
            simp only [gripB, Bool.and_eq_true, decide_eq_true_eq] at hgb'
            obtain ⟨htx, hi1, hi2⟩ := hgb'
            rw [HUL.out] at hi2
            have ht6 : 1 ≤ tx ∧ tx ≤ 6 := by simpa [txB] using htx
            rw [htx] at CX
            have HS2 : Hid (legalF up l = if (gripF up s ⟨tx, item, lock⟩).1 ≠ 0 then ((k : Int), (gripF up s ⟨tx, item, lock⟩).1) else gripsGo up (k + 1) (gripF up s ⟨tx, item, lock⟩).2 (l.drop (k + 1))) := Lib.hid (by rw [HLE.out, HS.out, if_neg hgb])
            obtain ⟨t, rfl⟩ : ∃ t : Nat, tx = t := ⟨tx.toNat, by omega⟩
            obtain ⟨i, rfl⟩ : ∃ i : Nat, item = (i : Int) + 1 := ⟨(item - 1).toNat, by omega⟩
            obtain ⟨t1, t2⟩ := ht6
            have q1 : ¬ (i : Int) + 1 < 1 := by omega
            have q2 : ¬ (nu : Int) < (i : Int) + 1 := by omega
            have hi6 : i + 1 ≤ 6 := by omega
            have j0 : (0 : Int) ≤ (i : Int) + 1 := by omega
            have j7 : (i : Int) + 1 < 7 := by omega
            have j1 : (0 : Int) ≤ (t : Int) := by omega
            have j2 : (t : Int) < 7 := by omega
            have ez : (i : Int) + 1 = ((i + 1 : Nat) : Int) := by omega
            have hui : i < nu := by omega
            clear hgb HS HLE htx hi1 hi2
            obtain ⟨I, hI⟩ : ∃ I : Nat, i + 1 = I := ⟨_, rfl⟩
            rw [ez, hI] at HS2 q1 q2 j0 j7 hBx hT1 hbw1 CX x0 x1 x2 c1
            rw [hI] at hi6
            have hwI : IntKind.i64.wrap ((I : Int) - 1) = (i : Int) := by rw [IntWalk.i64_in _ (by omega)]; omega
            have i0 : (0 : Int) ≤ (i : Int) := by omega
            have i1 : (i : Int) < (nu : Int) := by omega
            have z0 := hT1.hold.cellS (i := I) (holdC_at hi6)
            have y0 := hT1.had.cellS (i := t * 7 + I) (hadC_at (by omega) hi6)
            have f0 := hT1.first.cellS (i := t) (firstC_at (by omega))
            have zf := hT1.hold.frozen I
            have yf := hT1.had.frozen (t * 7 + I)
            have ff := hT1.first.frozen t
            have HT1 := hide hT1
            have hb1 := hT1.hold.lt
            have hb2 := hT1.had.lt
            have hb3 := hT1.first.lt
            have hbl := hBx.lt
            have HBW := hide hbw1
            obtain ⟨h0, hh0⟩ : ∃ h0 : Int, s.hold I = h0 := ⟨_, rfl⟩
            rw [hh0] at z0
            have HH := Lib.hid hh0
            clear hh0 hT1 ez
            cases lock
            · by_cases ht : h0 = (t : Int)
              · have HG : Hid (legalF up l = gripsGo up (k + 1) { s with hold := updF s.hold I 0 } (l.drop (k + 1))) := Lib.hid (by rw [HS2.out, show gripF up s ⟨t, I, false⟩ = (0, { s with hold := updF s.hold I 0 }) by rw [gripF_off, if_neg (by rw [HH.out]; exact fun e => e ht)]]; rfl)
                have tn : (h0 != (t : Int)) = false := by simp [ht]
                have HFR := hide (fun (w' : World) (h : GrH w' w.heap.size s) => h.free hi6)
                have hby := hbw1.setCell (p := ⟨w.heap.size, I, none⟩) (Nat.le_refl _) (.int .i64 0)
                have HDN := hide (fun (N : Nat) => (show GrH ((wr.alloc (.cells #[.int .i64 t, .int .i64 I, .bool false] 115)).drewN N) w.heap.size s from ⟨(unhide HT1).hold, (unhide HT1).had, (unhide HT1).first⟩))
                clear ht
                go_wp2_with fail
                refine (unhide CX).mono ?_
                rintro e w3 ⟨rfl, rfl⟩
                go_wp2
                go_quiet (fail)
                have z0q : ((wr.alloc (.cells #[.int .i64 t, .int .i64 I, .bool false] 115)).drewN nq).cell? ⟨w.heap.size, I, none⟩ = some (.int .i64 h0) := z0
                have zfq : ((wr.alloc (.cells #[.int .i64 t, .int .i64 I, .bool false] 115)).drewN nq).frozen? ⟨w.heap.size, I, none⟩ = false := zf
                have x1q : ((wr.alloc (.cells #[.int .i64 t, .int .i64 I, .bool false] 115)).drewN nq).cell? ⟨wr.heap.size, 1, none⟩ = some (.int .i64 I) := x1
                have hTq := unhide HFR _ (unhide HDN nq)
                have hbq := (below_drewN (unhide HBW) nq).setCell (p := ⟨w.heap.size, I, none⟩) (Nat.le_refl _) (.int .i64 0)
                clear z0 zf x1 x0 x2 y0 yf f0 ff hby HDN HFR
                generalize (wr.alloc (.cells #[.int .i64 t, .int .i64 I, .bool false] 115)).drewN nq = wq at *
                go_wp2
                go_roundw
                case rel => exact ⟨k + 1, _, by omega, by go_num, hTq, HG, hbq⟩
                case measure => simp [intOf]; omega
              · have HG : Hid (legalF up l = ((k : Int), 5)) := Lib.hid (by rw [HS2.out, show gripF up s ⟨t, I, false⟩ = (5, s) by rw [gripF_off, if_pos (by rw [HH.out]; exact ht)]]; rfl)
                have tn : (h0 != (t : Int)) = true := by simpa using ht
                clear ht
                go_wp2_with fail
                refine (unhide CX).mono ?_
                rintro e w3 ⟨rfl, rfl⟩
                go_wp2
                go_quiet (fail)
                go_wp2
                go_ret2
                exact ⟨by rw [HG.out]; rfl, below_drewN hbw1 _⟩
            · by_cases hz : h0 = 0
              rotate_left
              · have HG : Hid (legalF up l = ((k : Int), 7)) := Lib.hid (by rw [HS2.out, show gripF up s ⟨t, I, true⟩ = (7, s) by rw [gripF_on, if_pos (by rw [HH.out]; exact hz)]]; rfl)
                have tn : (h0 != 0) = true := by simpa using hz
                clear hz
                go_wp2_with fail
                refine (unhide CX).mono ?_
                rintro e w3 ⟨rfl, rfl⟩
                go_wp2
                go_ret2
                exact ⟨by rw [HG.out]; rfl, hbw1⟩
              have tn : (h0 != 0) = false := by simp [hz]
              have HZ := Lib.hid hz
              by_cases hhad : (I : Int) ∈ s.had t
              · have HG : Hid (legalF up l = ((k : Int), 6)) := Lib.hid (by rw [HS2.out, show gripF up s ⟨t, I, true⟩ = (6, s) by rw [gripF_on, if_neg (by rw [HH.out]; exact fun e => e HZ.out), if_pos hhad]]; rfl)
                rw [decide_eq_true hhad] at y0
                clear hz hhad
                go_wp2_with fail
                refine (unhide CX).mono ?_
                rintro e w3 ⟨rfl, rfl⟩
                go_wp2
                go_quiet (fail)
                go_wp2
                go_ret2
                exact ⟨by rw [HG.out]; rfl, below_drewN hbw1 _⟩
              rw [decide_eq_false hhad] at y0
              have HHD := Lib.hid hhad
              have HST : Hid (gripF up s ⟨t, I, true⟩ = if s.had t ≠ [] ∧ ((I : Int) = 1 ∨ s.hold (upF up I) ≠ t) then ((6 : Int), s) else (0, ⟨updF s.hold I t, updF s.had t (s.had t ++ [(I : Int)])⟩)) := Lib.hid (by rw [gripF_on, if_neg (by rw [HH.out]; exact fun e => e HZ.out), if_neg HHD.out])
              have HNO : Hid (¬ (s.had t ≠ [] ∧ ((I : Int) = 1 ∨ s.hold (upF up I) ≠ t)) → legalF up l = gripsGo up (k + 1) ⟨updF s.hold I t, updF s.had t (s.had t ++ [(I : Int)])⟩ (l.drop (k + 1))) := Lib.hid (fun e => by rw [HS2.out, show gripF up s ⟨t, I, true⟩ = (0, ⟨updF s.hold I t, updF s.had t (s.had t ++ [(I : Int)])⟩) by rw [HST.out, if_neg e]]; rfl)
              have HYES : Hid (s.had t ≠ [] ∧ ((I : Int) = 1 ∨ s.hold (upF up I) ≠ t) → legalF up l = ((k : Int), 6)) := Lib.hid (fun e => by rw [HS2.out, show gripF up s ⟨t, I, true⟩ = (6, s) by rw [HST.out, if_pos e]]; rfl)
              clear hz hhad HS2 HST
              have HTK := hide (fun (N : Nat) => (show GrH ((wr.alloc (.cells #[.int .i64 t, .int .i64 I, .bool true] 115)).drewN N) w.heap.size s from ⟨(unhide HT1).hold, (unhide HT1).had, (unhide HT1).first⟩))
              by_cases hfi : s.had t = []
              · have HG := Lib.hid (HNO.out (fun e => e.1 hfi))
                rw [decide_eq_false (fun e => e hfi)] at f0
                clear hfi HNO HYES
                go_wp2_with fail
                refine (unhide CX).mono ?_
                rintro e w3 ⟨rfl, rfl⟩
                go_wp2
                go_quiet (fail)
                have hTq := unhide HTK nq
                have hbq := below_drewN (unhide HBW) nq
                have hBq : Blk ((wr.alloc (.cells #[.int .i64 t, .int .i64 I, .bool true] 115)).drewN nq) wr.heap.size 115 [.int .i64 t, .int .i64 I, .bool true] := hBx
                clear CX x0 x1 x2 z0 y0 f0 zf yf ff c0 c1 c2 hBx hbw1 HBW HT1 HTK hb1 hb2 hb3 hbl
                generalize (wr.alloc (.cells #[.int .i64 t, .int .i64 I, .bool true] 115)).drewN nq = wq at *
                have z0q := hTq.hold.cellS (i := I) (holdC_at hi6)
                have zfq := hTq.hold.frozen I
                have x0q := hBq.cellS (i := 0) (v := .int .i64 t) rfl
                have x1q := hBq.cellS (i := 1) (v := .int .i64 I) rfl
                have hBr := hBq.far (p := ⟨w.heap.size, I, none⟩) (by show wr.heap.size ≠ w.heap.size; omega) (.int .i64 t)
                have hHr := hTq.had.far (p := ⟨w.heap.size, I, none⟩) (by show w.heap.size + 1 ≠ w.heap.size; omega) (.int .i64 t)
                have hFr := hTq.first.far (p := ⟨w.heap.size, I, none⟩) (by show w.heap.size + 1 + 1 ≠ w.heap.size; omega) (.int .i64 t)
                have hEND : GrH (((wq.setCell ⟨w.heap.size, I, none⟩ (.int .i64 t)).setCell ⟨w.heap.size + 1, t * 7 + I, none⟩ (.bool true)).setCell ⟨w.heap.size + 1 + 1, t, none⟩ (.bool true)).drew w.heap.size ⟨updF s.hold I t, updF s.had t (s.had t ++ [(I : Int)])⟩ := ⟨(hTq.take (by omega) hi6).hold, (hTq.take (by omega) hi6).had, (hTq.take (by omega) hi6).first⟩
                have hbe := (((hbq.setCell (p := ⟨w.heap.size, I, none⟩) (Nat.le_refl _) (.int .i64 t)).setCell (p := ⟨w.heap.size + 1, t * 7 + I, none⟩) (by show w.heap.size ≤ w.heap.size + 1; omega) (.bool true)).setCell (p := ⟨w.heap.size + 1 + 1, t, none⟩) (by show w.heap.size ≤ w.heap.size + 1 + 1; omega) (.bool true)).drew
                go_wp2
                generalize hW : (wq.setCell ⟨w.heap.size, I, none⟩ (.int .i64 t)) = wp at *
                have xs0 := hBr.cellS (i := 0) (v := .int .i64 t) rfl
                have xs1 := hBr.cellS (i := 1) (v := .int .i64 I) rfl
                go_still_tail 6, (by kernel_rfl)
                change wpList _ _ _ _ _ wp.drew
                have y0q := hHr.cellS (i := t * 7 + I) (hadC_at (by omega) hi6)
                have yfq := hHr.frozen (t * 7 + I)
                have hBs := hBr.far (p := ⟨w.heap.size + 1, t * 7 + I, none⟩) (by show wr.heap.size ≠ w.heap.size + 1; omega) (.bool true)
                have hFs := hFr.far (p := ⟨w.heap.size + 1, t * 7 + I, none⟩) (by show w.heap.size + 1 + 1 ≠ w.heap.size + 1; omega) (.bool true)
                have ys0 : wp.drew.cell? ⟨w.heap.size + 1, t * 7 + I, none⟩ = some _ := y0q
                have ysf : wp.drew.frozen? ⟨w.heap.size + 1, t * 7 + I, none⟩ = false := yfq
                have fs0 := hFs.cellS (i := t) (firstC_at (by omega))
                have fsf := hFs.frozen t
                have xt0 := hBs.cellS (i := 0) (v := .int .i64 t) rfl
                have HEND := hide hEND
                have HBE := hide hbe
                clear hEND hbe hTq hBq hBr hHr hFr hBs hFs hbq
                go_wp2
                go_roundw
                case rel => exact ⟨k + 1, _, by omega, by go_num, unhide HEND, HG, unhide HBE⟩
                case measure => simp [intOf]; omega
              · rw [decide_eq_true hfi] at f0
                have HFI := Lib.hid hfi
                clear hfi
                by_cases hI1 : I = 1
                · have HG := Lib.hid (HYES.out ⟨HFI.out, .inl (by omega)⟩)
                  have ti : ((I : Int) == 1) = true := by rw [beq_iff_eq]; omega
                  clear HNO HYES hI1
                  go_wp2_with fail
                  refine (unhide CX).mono ?_
                  rintro e w3 ⟨rfl, rfl⟩
                  go_wp2
                  go_quiet (fail)
                  go_wp2
                  go_ret2
                  exact ⟨by rw [HG.out]; rfl, below_drewN hbw1 _⟩
                · have ti : ((I : Int) == 1) = false := by rw [beq_eq_false_iff_ne]; omega
                  obtain ⟨bu, offu, u, heu, hbu, hux, u0⟩ := (unhide HU _ hbw1).int (k := i) hui
                  cases heu
                  obtain ⟨u1, u2⟩ := tree_up HTE.out (by omega) hux
                  have hup := upF_at hux
                  have eI : (i : Int) + 1 = (I : Int) := by omega
                  rw [eI] at hup
                  obtain ⟨U, rfl⟩ : ∃ U : Nat, u = U := ⟨u.toNat, by omega⟩
                  have v0 := (unhide HT1).hold.cellS (i := U) (holdC_at (by omega))
                  have u3 : (0 : Int) ≤ (U : Int) := by omega
                  have u4 : (U : Int) < 7 := by omega
                  by_cases hv : s.hold U = t
                  · have HG := Lib.hid (HNO.out (fun e => by rcases e.2 with e | e; omega; rw [hup] at e; exact e hv))
                    rw [hv] at v0
                    have tv : ((t : Int) != (t : Int)) = false := by simp
                    clear HNO HYES hux hup hv
                    go_wp2_with fail
                    refine (unhide CX).mono ?_
                    rintro e w3 ⟨rfl, rfl⟩
                    go_wp2
                    go_quiet (fail)
                    have hTq := unhide HTK nq
                    have hbq := below_drewN (unhide HBW) nq
                    have hBq : Blk ((wr.alloc (.cells #[.int .i64 t, .int .i64 I, .bool true] 115)).drewN nq) wr.heap.size 115 [.int .i64 t, .int .i64 I, .bool true] := hBx
                    clear CX x0 x1 x2 z0 y0 f0 zf yf ff c0 c1 c2 hBx hbw1 HBW HT1 HTK hb1 hb2 hb3 hbl v0 u0
                    generalize (wr.alloc (.cells #[.int .i64 t, .int .i64 I, .bool true] 115)).drewN nq = wq at *
                    have z0q := hTq.hold.cellS (i := I) (holdC_at hi6)
                    have zfq := hTq.hold.frozen I
                    have x0q := hBq.cellS (i := 0) (v := .int .i64 t) rfl
                    have x1q := hBq.cellS (i := 1) (v := .int .i64 I) rfl
                    have hBr := hBq.far (p := ⟨w.heap.size, I, none⟩) (by show wr.heap.size ≠ w.heap.size; omega) (.int .i64 t)
                    have hHr := hTq.had.far (p := ⟨w.heap.size, I, none⟩) (by show w.heap.size + 1 ≠ w.heap.size; omega) (.int .i64 t)
                    have hFr := hTq.first.far (p := ⟨w.heap.size, I, none⟩) (by show w.heap.size + 1 + 1 ≠ w.heap.size; omega) (.int .i64 t)
                    have hEND : GrH (((wq.setCell ⟨w.heap.size, I, none⟩ (.int .i64 t)).setCell ⟨w.heap.size + 1, t * 7 + I, none⟩ (.bool true)).setCell ⟨w.heap.size + 1 + 1, t, none⟩ (.bool true)).drew w.heap.size ⟨updF s.hold I t, updF s.had t (s.had t ++ [(I : Int)])⟩ := ⟨(hTq.take (by omega) hi6).hold, (hTq.take (by omega) hi6).had, (hTq.take (by omega) hi6).first⟩
                    have hbe := (((hbq.setCell (p := ⟨w.heap.size, I, none⟩) (Nat.le_refl _) (.int .i64 t)).setCell (p := ⟨w.heap.size + 1, t * 7 + I, none⟩) (by show w.heap.size ≤ w.heap.size + 1; omega) (.bool true)).setCell (p := ⟨w.heap.size + 1 + 1, t, none⟩) (by show w.heap.size ≤ w.heap.size + 1 + 1; omega) (.bool true)).drew
                    go_wp2
                    generalize hW : (wq.setCell ⟨w.heap.size, I, none⟩ (.int .i64 t)) = wp at *
                    have xs0 := hBr.cellS (i := 0) (v := .int .i64 t) rfl
                    have xs1 := hBr.cellS (i := 1) (v := .int .i64 I) rfl
                    go_still_tail 6, (by kernel_rfl)
                    change wpList _ _ _ _ _ wp.drew
                    have y0q := hHr.cellS (i := t * 7 + I) (hadC_at (by omega) hi6)
                    have yfq := hHr.frozen (t * 7 + I)
                    have hBs := hBr.far (p := ⟨w.heap.size + 1, t * 7 + I, none⟩) (by show wr.heap.size ≠ w.heap.size + 1; omega) (.bool true)
                    have hFs := hFr.far (p := ⟨w.heap.size + 1, t * 7 + I, none⟩) (by show w.heap.size + 1 + 1 ≠ w.heap.size + 1; omega) (.bool true)
                    have ys0 : wp.drew.cell? ⟨w.heap.size + 1, t * 7 + I, none⟩ = some _ := y0q
                    have ysf : wp.drew.frozen? ⟨w.heap.size + 1, t * 7 + I, none⟩ = false := yfq
                    have fs0 := hFs.cellS (i := t) (firstC_at (by omega))
                    have fsf := hFs.frozen t
                    have xt0 := hBs.cellS (i := 0) (v := .int .i64 t) rfl
                    have HEND := hide hEND
                    have HBE := hide hbe
                    clear hEND hbe hTq hBq hBr hHr hFr hBs hFs hbq
                    go_wp2
                    go_roundw
                    case rel => exact ⟨k + 1, _, by omega, by go_num, unhide HEND, HG, unhide HBE⟩
                    case measure => simp [intOf]; omega
                  · have HG := Lib.hid (HYES.out ⟨HFI.out, .inr (by rw [hup]; exact hv)⟩)
                    obtain ⟨vv, hvv⟩ : ∃ vv : Int, s.hold U = vv := ⟨_, rfl⟩
                    rw [hvv] at v0 hv
                    have tv : (vv != (t : Int)) = true := by simpa using hv
                    clear HNO HYES hux hup hv hvv
                    go_wp2_with fail
                    refine (unhide CX).mono ?_
                    rintro e w3 ⟨rfl, rfl⟩
                    go_wp2
                    go_quiet (fail)
                    go_wp2
                    go_ret2
                    exact ⟨by rw [HG.out]; rfl, below_drewN hbw1 _⟩
        · have HF : Hid (legalF up l = (0, 0)) := Lib.hid (by rw [HE.out]; exact gripsGo_end (drop_end (by rw [HLL.out]; omega)))
          go_wp2
          go_ret2
          exact ⟨by rw [HF.out]; rfl, hbw⟩
  · have HG : Hid (legalF up l = (0, treeE up)) := Lib.hid (by unfold legalF; rw [if_pos hte])
    obtain ⟨E, hE⟩ : ∃ E, treeE up = E := ⟨_, rfl⟩
    rw [hE] at CT HG hte
    have te : (E != 0) = true := by simpa using hte
    clear hte hu hr hE
    go_enter Tryd.func24, Tryd.ntmps24
    go_wp2_with fail
    refine (unhide CT).mono ?_
    rintro e w1 ⟨rfl, rfl⟩
    go_wp2
    go_ret2
    exact ⟨by rw [HG.out]; rfl, Below.refl _ _⟩
end Go.Proofs.YtfmdeahblaikoaaDoor
