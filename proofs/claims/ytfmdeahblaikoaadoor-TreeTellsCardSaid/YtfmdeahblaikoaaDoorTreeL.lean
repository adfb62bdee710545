
/-
  CONTRACTS of tree.Check, Legal, Edges.
-/
import Derived.Test.YtfmdeahblaikoaaDoorTree
import Derived.Test.YtfmdeahblaikoaaDoorTR1
import Derived.Test.YtfmdeahblaikoaaDoorSortE

namespace Go.Proofs.YtfmdeahblaikoaaDoor
open Go.RowKit

theorem treeGo_end {i : Nat} {l : List Int} (h : l = []) : treeGo i l = 0 := by rw [h]; rfl
theorem treeGo_step {i : Nat} {u : Int} {l t : List Int} (h : l = u :: t) : treeGo i l = if 1 ≤ u ∧ u ≤ i + 1 then treeGo (i + 1) t else 1 := by rw [h]; rfl
set_option maxHeartbeats 1000000 in
theorem tcheck_any (Au : Option Addr) (nu cu : Nat) (up : List Int) (w : World) (B : Nat) (hu : Rd w B 1 Au nu (cellsI up)) (hcap : nu ≤ cu) :
    Calls Tryd.prog 23 #[.slice Au nu cu] w fun e w' => e = .returned (errV (treeE up)) ∧ w = w' := by
  have hl := hu.ilen
  by_cases h0 : nu = 0
  · subst h0
    have HG : Hid (treeE up = 1) := Lib.hid (by unfold treeE; rw [if_pos (by omega)])
    clear hl
    go_enter Tryd.func23, Tryd.ntmps23
    go_wp2
    go_ret
    exact ⟨by rw [HG.out]; rfl, rfl⟩
  by_cases h6 : 6 < nu
  · have HG : Hid (treeE up = 1) := Lib.hid (by unfold treeE; rw [if_pos (by omega)])
    have h1 : ¬ nu < 1 := by omega
    clear hl
    go_enter Tryd.func23, Tryd.ntmps23
    go_wp2
    go_ret
    exact ⟨by rw [HG.out]; rfl, rfl⟩
  obtain ⟨b, off, x, he, hb, hx, c0⟩ := hu.int (k := 0) (by omega)
  cases he
  have hh : up.headD 0 = x := by
    cases up with
    | nil => simp at hx
    | cons a t => simpa using hx
  rw [Nat.add_zero] at c0
  have h1 : ¬ nu < 1 := by omega
  by_cases hx0 : x = 0
  · have HG : Hid (treeE up = treeGo 0 (up.tail.drop 0)) := Lib.hid (by unfold treeE; rw [if_neg (by omega), if_neg (by rw [hh]; exact fun e => e hx0)]; rfl)
    have tx : (x != 0) = false := by simp [hx0]
    have HL := Lib.hid hl
    have hu' := hide hu
    clear hl hh hx0 hx
    by_cases hn1 : nu = 1
    · subst hn1
      have HT : Hid (treeE up = 0) := Lib.hid (by rw [HG.out]; exact treeGo_end (by rw [List.drop_zero]; exact List.eq_nil_of_length_eq_zero (by rw [List.length_tail, HL.out])))
      by_cases hc1 : cu = 1
      · subst hc1
        go_enter Tryd.func23, Tryd.ntmps23
        go_wp2
        go_loop [22] (fun i => i = .int .i64 0) (fun _ => 0)
        case atStart => exact rfl
        case round =>
          subst hrel
          go_wp2
          go_ret
          exact ⟨by rw [HT.out]; rfl, rfl⟩
      · have hc2 : ¬ 1 = cu := fun e => hc1 e.symm
        go_enter Tryd.func23, Tryd.ntmps23
        go_wp2
        go_loop [22] (fun i => i = .int .i64 0) (fun _ => 0)
        case atStart => exact rfl
        case round =>
          subst hrel
          go_wp2
          go_ret
          exact ⟨by rw [HT.out]; rfl, rfl⟩
    · have hc2 : ¬ 1 = cu := by omega
      have hc3 : ¬ cu = 1 := by omega
      obtain ⟨m, rfl⟩ : ∃ m : Nat, nu = m + 1 := ⟨nu - 1, by omega⟩
      go_enter Tryd.func23, Tryd.ntmps23
      go_wp2
      go_loop [3, 4, 22] (fun _ _ i => ∃ k : Nat, k ≤ m ∧ i = .int .i64 k ∧ Hid (treeE up = treeGo k (up.tail.drop k))) (fun _ _ i => m - (intOf i).toNat)
      case atStart => exact ⟨0, Nat.zero_le _, rfl, HG⟩
      case round =>
        obtain ⟨k, hk, rfl, HE⟩ := hrel
        by_cases hlt : k < m
        · obtain ⟨b2, off2, y, he2, hb2, hy, d0⟩ := (unhide hu').int (k := k + 1) (by omega)
          cases he2
          have hy2 : up.tail[k]? = some y := by rw [List.getElem?_tail]; exact hy
          have HS := Lib.hid (treeGo_step (i := k) (drop_at hy2))
          rw [show off + (k + 1) = off + 1 + k by omega] at d0
          clear hy hy2
          by_cases q1 : y < 1
          · have HF : Hid (treeE up = 1) := Lib.hid (by rw [HE.out, HS.out, if_neg (by omega)])
            go_wp2
            go_ret
            exact ⟨by rw [HF.out]; rfl, rfl⟩
          · by_cases q2 : y ≤ (k : Int) + 1
            · have HF : Hid (treeE up = treeGo (k + 1) (up.tail.drop (k + 1))) := Lib.hid (by rw [HE.out, HS.out, if_pos ⟨by omega, q2⟩])
              go_wp2
              go_round
              case rel => exact ⟨k + 1, by omega, by go_num, HF⟩
              case measure => simp [intOf]; omega
            · have HF : Hid (treeE up = 1) := Lib.hid (by rw [HE.out, HS.out, if_neg (by omega)])
              go_wp2
              go_ret
              exact ⟨by rw [HF.out]; rfl, rfl⟩
        · have HF : Hid (treeE up = 0) := Lib.hid (by rw [HE.out]; exact treeGo_end (drop_end (by rw [List.length_tail, HL.out]; omega)))
          go_wp2
          go_ret
          exact ⟨by rw [HF.out]; rfl, rfl⟩
  · have HG : Hid (treeE up = 3) := Lib.hid (by unfold treeE; rw [if_neg (by omega), if_pos (by rw [hh]; exact hx0)])
    have tx : (x != 0) = true := by simp [hx0]
    clear hl hx0 hh hx
    go_enter Tryd.func23, Tryd.ntmps23
    go_wp2
    go_ret
    exact ⟨by rw [HG.out]; rfl, rfl⟩

theorem gripsGo_step {up : List Int} {i : Nat} {s : TSt} {g : GOp} {l t : List GOp} (h : l = g :: t) : gripsGo up i s l = if gripB up.length g = false then ((i : Int), 1) else if (gripF up s g).1 ≠ 0 then ((i : Int), (gripF up s g).1) else gripsGo up (i + 1) (gripF up s g).2 t := by rw [h]; rfl
theorem gripsGo_end {up : List Int} {i : Nat} {s : TSt} {l : List GOp} (h : l = []) : gripsGo up i s l = (0, 0) := by rw [h]; rfl
theorem gripF_had {up : List Int} {s : TSt} {g : GOp} {k : Nat} (h : ∀ t, (s.had t).length ≤ k) : ∀ t, ((gripF up s g).2.had t).length ≤ k + 1 := by
  intro t
  have h0 : (s.had t).length ≤ k + 1 := Nat.le_succ_of_le (h t)
  unfold gripF
  split
  · split
    · exact h0
    · split
      · exact h0
      · split
        · exact h0
        · show (updF s.had g.tx (s.had g.tx ++ [g.item]) t).length ≤ _
          by_cases e : t = g.tx
          · rw [e, updF_self, List.length_append]; have := h g.tx; simp; omega
          · rw [updF_ne _ _ e]; exact h0
  · split <;> exact h0
theorem treeH_new (w : World) : TreeH w.heap.size ((w.alloc (.map #[] 0)).alloc (.cells #[.map (some w.heap.size), .slice none 0 0, .slice none 0 0, .slice none 0 0, .slice none 0 0, .slice none 0 0, .slice none 0 0, .slice none 0 0] 120)) (w.heap.size + 1) w.heap.size ts0 [] (fun _ => .slice none 0 0) := by
  refine ⟨?_, by omega, (MapI.new w).alloc _, Nat.le_refl _, ⟨List.nodup_nil, fun i => by simp [getI, ts0]⟩, fun t _ _ => World.ownsRow_nil _ _ _ _, fun t u k _ _ _ _ _ h => by cases h⟩
  have := Blk.new (w.alloc (.map #[] 0)) 120 [.map (some w.heap.size), .slice none 0 0, .slice none 0 0, .slice none 0 0, .slice none 0 0, .slice none 0 0, .slice none 0 0, .slice none 0 0]
  simp at this
  exact this

set_option maxRecDepth 100000 in
set_option maxHeartbeats 4000000 in
theorem legal_any (Au : Option Addr) (nu cu : Nat) (up : List Int) (Al : Option Addr) (nl cl : Nat) (l : List GOp) (w : World) (hu : Rd w w.heap.size 1 Au nu (cellsI up)) (hcap : nu ≤ cu) (hr : Rd w w.heap.size 3 Al nl (cellsG l)) (hml : nl ≤ 1000000000000000) :
    Calls Tryd.prog 25 #[.slice Au nu cu, .slice Al nl cl] w fun e w' => e = .returned (.tuple #[.int .i64 (legalF up l).1, errV (legalF up l).2]) ∧ Below w.heap.size w w' := by
  have CT := hide (tcheck_any Au nu cu up w w.heap.size hu hcap)
  have HUL := Lib.hid hu.ilen
  have HLL := Lib.hid hr.glen
  by_cases hte : treeE up = 0
  · rw [hte, show errV 0 = .nilIface from rfl] at CT
    have hn6 : nu ≤ 6 := by
      have : ¬ 6 < nu := fun h => by
        unfold treeE at hte
        rw [if_pos (.inr (by rw [HUL.out]; exact h))] at hte
        cases hte
      omega
    by_cases h40 : 40 < nl
    · have HG : Hid (legalF up l = (0, 4)) := Lib.hid (by unfold legalF; rw [if_neg (fun e => e hte), if_pos (by rw [HLL.out]; exact h40)])
      clear hte hu hr
      go_enter Tryd.func25, Tryd.ntmps25
      go_wp2_with fail
      refine (unhide CT).mono ?_
      rintro e w1 ⟨rfl, rfl⟩
      go_wp2
      go_ret2
      exact ⟨by rw [HG.out]; rfl, Below.refl _ _⟩
    · have HG : Hid (legalF up l = gripsGo up 0 ts0 (l.drop 0)) := Lib.hid (by unfold legalF; rw [if_neg (fun e => e hte), if_neg (by rw [HLL.out]; exact h40)]; rfl)
      have HU := hide (fun w' (hb : Below w.heap.size w w') => hu.below hb)
      have HR := hide (fun w' (hb : Below w.heap.size w w') => hr.below hb)
      have hmm := @run_makeMap Tryd.prog
      have HT0 := hide (treeH_new w)
      have hb0 : Below w.heap.size w ((w.alloc (.map #[] 0)).alloc (.cells #[.map (some w.heap.size), .slice none 0 0, .slice none 0 0, .slice none 0 0, .slice none 0 0, .slice none 0 0, .slice none 0 0, .slice none 0 0] 120)) := ((Below.refl _ _).alloc (Nat.le_refl _) _).alloc (by simp) _
      have HB0 := hide hb0
      clear hte hu hr hb0
      go_enter Tryd.func25, Tryd.ntmps25
      go_wp2_with fail
      refine (unhide CT).mono ?_
      rintro e w1 ⟨rfl, rfl⟩
      go_wp2
      go_loopw [8, 9, 10, 25] (fun _ _ _ s25 wr => ∃ (k : Nat) (s : TSt) (mm : List (Int × Value)) (vs : Int → Value), k ≤ nl ∧ s25 = .int .i64 k ∧ TreeH w.heap.size wr (w.heap.size + 1) w.heap.size s mm vs ∧ Hid (legalF up l = gripsGo up k s (l.drop k)) ∧ Hid (∀ t, (s.had t).length ≤ k) ∧ Below w.heap.size w wr) (fun _ _ _ s25 _ => nl - (intOf s25).toNat)
      case atStart => exact ⟨0, ts0, [], _, Nat.zero_le _, rfl, unhide HT0, HG, Lib.hid (fun _ => Nat.le_refl _), unhide HB0⟩
      case round =>
        clear HG HT0 HB0
        obtain ⟨k, s, mm, vs, hk, rfl, hT, HE, HD, hbw⟩ := hrel
        by_cases hlt : k < nl
        · obtain ⟨b, off, q, he, hb, hq, c0, c1, c2⟩ := (unhide HR wr hbw).grip (k := k) hlt
          cases he
          have HS := Lib.hid (gripsGo_step (up := up) (i := k) (s := s) (drop_at hq))
          obtain ⟨tx, item, lock⟩ := q
          simp only at c0 c1 c2 HS
          have hbx : Below wr.heap.size wr (wr.alloc (.cells #[.int .i64 tx, .int .i64 item, .bool lock] 115)) := (Below.refl _ _).alloc (Nat.le_refl _) _
          have hT1 := hT.below hbx
          have hbw1 := hbw.trans (hbx.mono hbw.size)
          have hBx := Blk.new wr 115 [.int .i64 tx, .int .i64 item, .bool lock]
          have HLE := HE
          clear hq hT hbx HE
          by_cases hgb : gripB up.length ⟨tx, item, lock⟩ = false
          · have HF : Hid (legalF up l = ((k : Int), 1)) := Lib.hid (by rw [HLE.out, HS.out, if_pos hgb])
            have CX := hide (tx_any tx (wr.alloc (.cells #[.int .i64 tx, .int .i64 item, .bool lock] 115)))
            have hgb2 : txB tx = true → 1 ≤ item → ¬ item ≤ (nu : Int) := fun e1 e2 e3 => by
              simp only [gripB, e1, Bool.true_and, decide_eq_false_iff_not] at hgb
              exact hgb ⟨e2, by rw [HUL.out]; exact e3⟩
            have HGB := Lib.hid hgb2
            obtain ⟨p, hp⟩ : ∃ p : Bool, txB tx = p := ⟨_, rfl⟩
            rw [hp] at CX
            have HP := Lib.hid hp
            clear hgb hgb2 hp HS HLE hT1 hBx
            cases p
            · go_wp2_with fail
              refine (unhide CX).mono ?_
              rintro e w3 ⟨rfl, rfl⟩
              go_wp2
              go_ret2
              exact ⟨by rw [HF.out]; rfl, hbw1⟩
            · by_cases h1 : item < 1
              · go_wp2_with fail
                refine (unhide CX).mono ?_
                rintro e w3 ⟨rfl, rfl⟩
                go_wp2
                go_ret2
                exact ⟨by rw [HF.out]; rfl, hbw1⟩
              · have h2 : (nu : Int) < item := by have := HGB.out HP.out (by omega); omega
                go_wp2_with fail
                refine (unhide CX).mono ?_
                rintro e w3 ⟨rfl, rfl⟩
                go_wp2
                go_ret2
                exact ⟨by rw [HF.out]; rfl, hbw1⟩
          · have hgb' : gripB up.length ⟨tx, item, lock⟩ = true := by simpa using hgb
            simp only [gripB, Bool.and_eq_true, decide_eq_true_eq] at hgb'
            obtain ⟨htx, hi1, hi2⟩ := hgb'
            rw [HUL.out] at hi2
            have ht6 : 1 ≤ tx ∧ tx ≤ 6 := by simpa [txB] using htx
            have CX := hide (tx_any tx (wr.alloc (.cells #[.int .i64 tx, .int .i64 item, .bool lock] 115)))
            rw [htx] at CX
            have hls : (s.had tx).length ≤ 40 := by have := HD.out tx; omega
            have CG := hide (grip_any w.heap.size (w.heap.size + 1) w.heap.size s mm vs Au nu cu up ⟨tx, item, lock⟩ (wr.alloc (.cells #[.int .i64 tx, .int .i64 item, .bool lock] 115)) hT1 (unhide HU _ hbw1) hbw1.size ht6.1 ht6.2 hi1 hi2 hn6 hls)
            have HS2 : Hid (legalF up l = if (gripF up s ⟨tx, item, lock⟩).1 ≠ 0 then ((k : Int), (gripF up s ⟨tx, item, lock⟩).1) else gripsGo up (k + 1) (gripF up s ⟨tx, item, lock⟩).2 (l.drop (k + 1))) := Lib.hid (by rw [HLE.out, HS.out, if_neg hgb])
            have HD2 : Hid (∀ t, ((gripF up s ⟨tx, item, lock⟩).2.had t).length ≤ k + 1) := Lib.hid (gripF_had HD.out)
            unfold GripPost at CG
            generalize gripF up s ⟨tx, item, lock⟩ = gr at *
            obtain ⟨code, s2⟩ := gr
            simp only at CG HS2 HD2
            unfold gVal at CG
            simp only at CG
            have x0 := hBx.cellS (i := 0) (v := .int .i64 tx) rfl
            have x1 := hBx.cellS (i := 1) (v := .int .i64 item) rfl
            have x2 := hBx.cellS (i := 2) (v := .bool lock) rfl
            have q1 : ¬ item < 1 := by omega
            have q2 : ¬ (nu : Int) < item := by omega
            clear hgb HS HLE hT1 htx ht6 hls HD
            go_wp2_with fail
            refine (unhide CX).mono ?_
            rintro e w3 ⟨rfl, rfl⟩
            clear CX hBx
            go_wp2_with fail
            refine (unhide CG).mono ?_
            rintro e w4 ⟨mm', vs', rfl, hT4, hb4⟩
            have hbw4 := hbw1.trans hb4
            clear CG x0 x1 x2 c0 c1 c2
            by_cases hc0 : code = 0
            · subst hc0
              have HE5 : Hid (legalF up l = gripsGo up (k + 1) s2 (l.drop (k + 1))) := Lib.hid (by rw [HS2.out, if_neg (fun e => e rfl)])
              rw [show errV 0 = .nilIface from rfl]
              clear HS2
              go_wp2
              go_roundw
              case rel => exact ⟨k + 1, s2, mm', vs', by omega, by go_num, hT4, HE5, HD2, hbw4⟩
              case measure => simp [intOf]; omega
            · have HE5 : Hid (legalF up l = ((k : Int), code)) := Lib.hid (by rw [HS2.out, if_pos hc0])
              have HC := Lib.hid hc0
              rw [ne_errV hc0]
              clear HS2 hc0
              go_wp2
              go_ret2
              exact ⟨by rw [HE5.out]; simp only [ne_errV HC.out]; rfl, hbw4⟩
        · have HF : Hid (legalF up l = (0, 0)) := Lib.hid (by rw [HE.out]; exact gripsGo_end (drop_end (by rw [HLL.out]; omega)))
          clear hT HE HD
          go_wp2
          go_ret2
          exact ⟨by rw [HF.out]; rfl, hbw⟩
  · have HG : Hid (legalF up l = (0, treeE up)) := Lib.hid (by unfold legalF; rw [if_pos hte])
    have HE := Lib.hid hte
    rw [ne_errV hte] at CT
    generalize treeE up = ev at *
    clear hte hu hr
    go_enter Tryd.func25, Tryd.ntmps25
    go_wp2_with fail
    refine (unhide CT).mono ?_
    rintro e w1 ⟨rfl, rfl⟩
    go_wp2
    go_ret2
    exact ⟨by rw [HG.out]; simp only [ne_errV HE.out]; rfl, Below.refl _ _⟩
end Go.Proofs.YtfmdeahblaikoaaDoor
