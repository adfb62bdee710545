
/-
  CONTRACT of the reference's laneref2.Mixes.
  CONTRACT of the reference's laneref2.AllMixes.
-/
import Derived.Test.YtmamejkdheigjaaGreatDoorMX1
import Derived.Laws.CopyOwn
import Derived.Test.YtmamejkdheigjaaGreatDoorROf

namespace Go.Proofs.YtmamejkdheigjaaGreatDoor
open Go.RowKit

/-- A slice value reads as a list of ops. -/
def SlM (w : World) (x : Value) (m : List HOp) : Prop := ∃ n, w.ownsRow 0 54 3 x n (cellsH m)
def EachM (w : World) : List Value → List (List HOp) → Prop
  | [], [] => True
  | x :: xs, m :: ms => SlM w x m ∧ EachM w xs ms
  | _, _ => False
theorem SlM.below {w w' : World} {x : Value} {m : List HOp} (h : SlM w x m) (hb : Below w.heap.size w w') : SlM w' x m := by
  obtain ⟨n, ho⟩ := h
  exact ⟨n, own_below ho hb (Nat.le_refl _)⟩
theorem SlM.other {w w' : World} {x : Value} {m : List HOp} (h : SlM w x m) {base : Nat} {v : Value} {n : Nat} {xs : List Value} (hv : w.ownsRow base 22 1 v n xs) (hg : w.grownBy w' v.ownBlock) : SlM w' x m := by
  obtain ⟨k, ho⟩ := h
  exact ⟨k, own_other ho hv (by decide) hg⟩
theorem EachM.other {w w' : World} {base : Nat} {v : Value} {n : Nat} {zs : List Value} (hv : w.ownsRow base 22 1 v n zs) (hg : w.grownBy w' v.ownBlock) : ∀ {xs : List Value} {ms : List (List HOp)}, EachM w xs ms → EachM w' xs ms
  | [], [], _ => trivial
  | _ :: _, _ :: _, h => ⟨h.1.other hv hg, EachM.other hv hg h.2⟩
  | [], _ :: _, h => h.elim
  | _ :: _, [], h => h.elim
theorem EachM.below {w w' : World} (hb : Below w.heap.size w w') : ∀ {xs : List Value} {ms : List (List HOp)}, EachM w xs ms → EachM w' xs ms
  | [], [], _ => trivial
  | _ :: _, _ :: _, h => ⟨h.1.below hb, EachM.below hb h.2⟩
  | [], _ :: _, h => h.elim
  | _ :: _, [], h => h.elim
theorem EachM.app {w : World} : ∀ {xs ys : List Value} {ms ns : List (List HOp)}, EachM w xs ms → EachM w ys ns → EachM w (xs ++ ys) (ms ++ ns)
  | [], _, [], _, _, h => h
  | _ :: _, _, _ :: _, _, h, k => ⟨h.1, EachM.app h.2 k⟩
  | [], _, _ :: _, _, h, _ => h.elim
  | _ :: _, _, [], _, h, _ => h.elim
theorem EachM.len {w : World} : ∀ {xs : List Value} {ms : List (List HOp)}, EachM w xs ms → xs.length = ms.length
  | [], [], _ => rfl
  | _ :: _, _ :: _, h => by simp only [List.length_cons]; rw [EachM.len h.2]
  | [], _ :: _, h => h.elim
  | _ :: _, [], h => h.elim
theorem EachM.get {w : World} : ∀ {xs : List Value} {ms : List (List HOp)}, EachM w xs ms → ∀ {i : Nat} {m : List HOp}, ms[i]? = some m → ∃ x, xs[i]? = some x ∧ SlM w x m
  | _ :: _, _ :: _, h, 0, m, hm => by
    simp at hm; subst hm
    exact ⟨_, rfl, h.1⟩
  | _ :: xs, _ :: ms, h, i + 1, m, hm => by
    obtain ⟨x, h1, h2⟩ := EachM.get h.2 (i := i) (m := m) (by simpa using hm)
    exact ⟨x, by simpa using h1, h2⟩
  | [], [], _, i, m, hm => by simp at hm
  | [], _ :: _, h, _, _, _ => h.elim
  | _ :: _, [], h, _, _, _ => h.elim
theorem EachM.one {w : World} : ∀ {xs : List Value} {ms : List (List HOp)}, EachM w xs ms → ∀ u ∈ xs, u.oneCell' = true
  | [], [], _, u, hu => by cases hu
  | x :: xs, m :: ms, h, u, hu => by
    rcases List.mem_cons.1 hu with rfl | hu
    · obtain ⟨n, ho⟩ := h.1
      obtain ⟨A, c, rfl⟩ := own_slice ho
      rfl
    · exact EachM.one h.2 u hu
  | [], _ :: _, h, _, _ => h.elim
  | _ :: _, [], h, _, _ => h.elim
theorem slt_rows : SlT Tryz.prog 24 22 1 24 := slt_of (z := .slice none 0 0) (by kernel_rfl) (by kernel_rfl) (by kernel_rfl) (by omega) (by omega)
/-- What Mixes leaves. -/
def RMixPost (ms : List (List HOp)) (w : World) (e : Ending) (w' : World) : Prop :=
  ∃ v xs, e = .returned v ∧ w'.ownsRow w.heap.size 22 1 v ms.length xs ∧ EachM w' xs ms ∧ Below w.heap.size w w'
def RMixCall (n : Nat) : Prop := ∀ (R : Int → List HOp) (V : Int → Value) (b : List HOp) (Ab : Option Addr) (nb cb : Nat) (w : World), R 0 = [] → totR R = n → b.length = nb → nb + n ≤ 8 → (∀ t : Int, 0 ≤ t → t ≤ 6 → QRow w 0 54 (V t) (R t)) → w.ownsRow 0 54 3 (.slice Ab nb cb) nb (cellsH b) →
  Calls Tryz.prog 14 #[.agg #[V 0, V 1, V 2, V 3, V 4, V 5, V 6], .slice Ab nb cb, .int .i64 n] w (RMixPost (mixL n R b) w)
set_option maxRecDepth 100000 in
set_option maxHeartbeats 2000000 in
theorem rmix_zero : RMixCall 0 := by
  intro R V b Ab nb cb w hR0 htot hbl hn hV hb
  have hone : ∀ t : Int, 0 ≤ t → t ≤ 6 → ∃ A n c, V t = .slice A n c := fun t h0 h6 => by
    obtain ⟨A, c, h⟩ := (hV t h0 h6).shape'
    exact ⟨A, _, c, h⟩
  obtain ⟨A0, n0, c0, h0⟩ := hone 0 (by omega) (by omega)
  obtain ⟨A1, n1, c1, h1⟩ := hone 1 (by omega) (by omega)
  obtain ⟨A2, n2, c2, h2⟩ := hone 2 (by omega) (by omega)
  obtain ⟨A3, n3, c3, h3⟩ := hone 3 (by omega) (by omega)
  obtain ⟨A4, n4, c4, h4⟩ := hone 4 (by omega) (by omega)
  obtain ⟨A5, n5, c5, h5⟩ := hone 5 (by omega) (by omega)
  obtain ⟨A6, n6, c6, h6⟩ := hone 6 (by omega) (by omega)
  rw [h0, h1, h2, h3, h4, h5, h6]
  clear hone hV h0 h1 h2 h3 h4 h5 h6 htot hR0 hbl hn
  go_enter Tryz.func14, Tryz.ntmps14
  go_wp2
  go_ret
  have hbw : Below w.heap.size w ((w.alloc (.cells #[.slice A0 n0 c0, .slice A1 n1 c1, .slice A2 n2 c2, .slice A3 n3 c3, .slice A4 n4 c4, .slice A5 n5 c5, .slice A6 n6 c6] 40)).alloc (.cells #[.slice Ab nb cb] 22)) := ((Below.refl _ _).alloc (Nat.le_refl _) _).alloc (by simp) _
  refine ⟨_, [.slice Ab nb cb], rfl, ?_, ⟨⟨nb, own_below hb hbw (Nat.le_refl _)⟩, trivial⟩, hbw⟩
  have h := own_blk (Blk.new (w.alloc (.cells #[.slice A0 n0 c0, .slice A1 n1 c1, .slice A2 n2 c2, .slice A3 n3 c3, .slice A4 n4 c4, .slice A5 n5 c5, .slice A6 n6 c6] 40)) 22 [.slice Ab nb cb]) (base := w.heap.size) (size := 1) (n := 1) (by simp) (by decide) rfl
  show World.ownsRow _ w.heap.size 22 1 _ 1 _
  simpa using h
theorem six_len (n : Nat) (R : Int → List HOp) (b : List HOp) (hn : n ≤ 8) : (mixL n R b).length ≤ 1679616 := Nat.le_trans (mix_len _ _ _) (Nat.le_trans (Nat.pow_le_pow_right (by omega) hn) (by decide))
theorem mixT_len (n : Nat) (R : Int → List HOp) (b : List HOp) (t : Int) (hn : n ≤ 8) : (mixT n R b t).length ≤ 1679616 := by
  unfold mixT
  split
  · exact Nat.zero_le _
  · exact six_len _ _ _ hn
theorem mixU_len (n : Nat) (R : Int → List HOp) (b : List HOp) (k : Nat) (hn : n ≤ 8) : (mixU n R b k).length ≤ k * 1679616 := by
  unfold mixU
  have h := flatMap_le (f := fun i : Nat => mixT n R b (i : Int)) (List.range k) (c := 1679616) fun i _ => mixT_len n R b i hn
  simpa using h
set_option maxRecDepth 100000 in
set_option maxHeartbeats 8000000 in
theorem rmix_succ {n : Nat} (ih : RMixCall n) : RMixCall (n + 1) := by
  intro R V b Ab nb cb w hR0 htot hbl hn hV hb
  have hone : ∀ t : Int, 0 ≤ t → t ≤ 6 → ∃ A n c, V t = .slice A n c := fun t h0 h6 => by
    obtain ⟨A, c, h⟩ := (hV t h0 h6).shape'
    exact ⟨A, _, c, h⟩
  obtain ⟨A0, n0, c0, h0⟩ := hone 0 (by omega) (by omega)
  obtain ⟨A1, n1, c1, h1⟩ := hone 1 (by omega) (by omega)
  obtain ⟨A2, n2, c2, h2⟩ := hone 2 (by omega) (by omega)
  obtain ⟨A3, n3, c3, h3⟩ := hone 3 (by omega) (by omega)
  obtain ⟨A4, n4, c4, h4⟩ := hone 4 (by omega) (by omega)
  obtain ⟨A5, n5, c5, h5⟩ := hone 5 (by omega) (by omega)
  obtain ⟨A6, n6, c6, h6⟩ := hone 6 (by omega) (by omega)
  have HRV : Hid (rowsV V = [.slice A0 n0 c0, .slice A1 n1 c1, .slice A2 n2 c2, .slice A3 n3 c3, .slice A4 n4 c4, .slice A5 n5 c5, .slice A6 n6 c6]) := Lib.hid (by unfold rowsV; rw [h0, h1, h2, h3, h4, h5, h6])
  rw [h0, h1, h2, h3, h4, h5, h6]
  obtain ⟨N, hN⟩ : ∃ N : Int, N = ((n + 1 : Nat) : Int) := ⟨_, rfl⟩
  rw [← hN]
  have hN0 : (N == 0) = false := by rw [hN]; simp; omega
  have HN : Hid (N = (n : Int) + 1) := Lib.hid (by rw [hN]; simp)
  have HQ := hide (fun w' (hb : Below w.heap.size w w') t t0 t6 => (hV t t0 t6).kept fun g hg => hb.block g ((hV t t0 t6).lt hg).2)
  have HB := hide (fun w' (hc : Below w.heap.size w w') => rd_own (own_below hb hc (Nat.le_refl _)))
  have hB0 : Blk (w.alloc (.cells #[.slice A0 n0 c0, .slice A1 n1 c1, .slice A2 n2 c2, .slice A3 n3 c3, .slice A4 n4 c4, .slice A5 n5 c5, .slice A6 n6 c6] 40)) w.heap.size 40 (rowsV V) := by
    rw [HRV.out]; exact Blk.new w _ _
  have hb0 : Below w.heap.size w (w.alloc (.cells #[.slice A0 n0 c0, .slice A1 n1 c1, .slice A2 n2 c2, .slice A3 n3 c3, .slice A4 n4 c4, .slice A5 n5 c5, .slice A6 n6 c6] 40)) := (Below.refl _ _).alloc (Nat.le_refl _) _
  have hz0 : (w.alloc (.cells #[.slice A0 n0 c0, .slice A1 n1 c1, .slice A2 n2 c2, .slice A3 n3 c3, .slice A4 n4 c4, .slice A5 n5 c5, .slice A6 n6 c6] 40)).heap.size = w.heap.size + 1 := by simp
  have HIH := Lib.hid ih
  have HR0 := Lib.hid hR0
  have HTT := Lib.hid (And.intro htot (And.intro hbl hn))
  have HU1 : Hid (mixU n R b 1 = []) := Lib.hid (by
    show (mixT n R b ((0 : Nat) : Int)) ++ [] = []
    unfold mixT
    rw [show ((0 : Nat) : Int) = 0 from rfl, hR0]; rfl)
  have HUA := Lib.hid (mixU_all (n := n) (R := R) (b := b) hR0)
  clear hone hV h0 h1 h2 h3 h4 h5 h6 htot hR0 hbl hn hb hN ih
  go_enter Tryz.func14, Tryz.ntmps14
  go_wp2
  generalize w.alloc (.cells #[.slice A0 n0 c0, .slice A1 n1 c1, .slice A2 n2 c2, .slice A3 n3 c3, .slice A4 n4 c4, .slice A5 n5 c5, .slice A6 n6 c6] 40) = w1 at *
  have HB1 := Lib.hid (And.intro hB0 (And.intro hb0 hz0))
  clear hB0 hb0 hz0
  go_loopw [7, 8] (fun s7 s8 wr => ∃ k : Nat, ∃ xs : List Value, 1 ≤ k ∧ k ≤ 7 ∧ s8 = .int .i64 k ∧ wr.ownsRow w1.heap.size 22 1 s7 (mixU n R b k).length xs ∧ EachM wr xs (mixU n R b k) ∧ Below w1.heap.size w1 wr) (fun _ s8 _ => 7 - (intOf s8).toNat)
  case atStart => exact ⟨1, [], Nat.le_refl _, by omega, rfl, by rw [HU1.out]; exact World.ownsRow_nil _ _ _ _, by rw [HU1.out]; trivial, Below.refl _ _⟩
  case round =>
    obtain ⟨k, xs, hk1, hk7, rfl, hown, heach, hbw⟩ := hrel
    obtain ⟨Aa, ca, rfl⟩ := own_slice hown
    by_cases hlt : k < 7
    · have hltI : (k : Int) ≤ 6 := by omega
      have hk0i : (0 : Int) ≤ (k : Int) := by omega
      have hltI7 : (k : Int) < 7 := by omega
      have hbw0 : Below w.heap.size w wr := HB1.out.2.1.trans (hbw.mono HB1.out.2.1.size)
      have hg0 : w.heap.size < w1.heap.size := by rw [HB1.out.2.2]; omega
      have hB := HB1.out.1.below hbw hg0
      have hp0 := hB.cellS (rowsV_get V k hlt)
      have hq := unhide HQ wr hbw0 k (by omega) (by omega)
      have HMU := Lib.hid (mixU_succ n R b k)
      cases hRk : R k with
      | nil =>
        rw [hRk] at hq
        obtain ⟨A, c, hV⟩ := hq.shape'
        rw [hV] at hp0
        simp only [List.length_nil] at hp0
        have hmu : mixU n R b (k + 1) = mixU n R b k := by
          rw [HMU.out]
          have : mixT n R b k = [] := by unfold mixT; rw [hRk]
          rw [this, List.append_nil]
        have HJ := Lib.hid (And.intro hmu (And.intro hown heach))
        have HBW := Lib.hid hbw
        clear hown heach hV hq hRk hB hbw hbw0 hmu
        go_wp2
        go_roundw
        case rel => exact ⟨k + 1, xs, by omega, by omega, by go_num, by rw [HJ.out.1]; exact HJ.out.2.1, by rw [HJ.out.1]; exact HJ.out.2.2, HBW.out⟩
        case measure => simp [intOf]; omega
      | cons o r =>
        rw [hRk] at hq
        obtain ⟨gq, off, c, hV, hlc, hgq, z0, z1, z2, htl⟩ := hq.head
        have hsix : (k : Int) ∈ sixI := mem_six.2 ⟨by omega, by omega⟩
        have hT := totR_upd hsix hRk
        have hmt : mixT n R b k = mixL n (updM R k r) (b ++ [o]) := by unfold mixT; rw [hRk]
        have HMT := Lib.hid (And.intro HMU.out hmt)
        obtain ⟨V2, hV2⟩ : ∃ V2, Value.slice (some (if c = 1 then (⟨gq, off, none⟩ : Addr) else ⟨gq, off + 3, none⟩)) r.length (c - 1) = V2 := ⟨_, rfl⟩
        rw [hV2] at htl
        have HR7 := hide (fun w' (hb : Below wr.heap.size wr w') (t : Int) (h0 : 0 ≤ t) (h6 : t ≤ 6) => show QRow w' 0 54 (updV V k V2 t) (updM R k r t) by
          unfold updV updM
          by_cases e : t = k
          · rw [if_pos e, if_pos e]
            exact htl.kept fun g hg => hb.block g (htl.lt hg).2
          · rw [if_neg e, if_neg e]
            exact unhide HQ w' (hbw0.trans (hb.mono hbw0.size)) t h0 h6)
        have hbv : rowsV (updV V k V2) = (rowsV V).set k V2 := (rowsV_set V k hlt V2).symm
        have HBV := Lib.hid hbv
        have HH := Lib.hid (And.intro hown (And.intro heach hbw))
        obtain ⟨nr, hnr⟩ : ∃ nr, r.length = nr := ⟨_, rfl⟩
        rw [hnr] at hlc hV2 hV
        have hV' := hV
        rw [hV] at hp0
        have hlt0 : (0 : Int) < (nr : Int) + 1 := by omega
        have hl1 : (1 : Int) ≤ (nr : Int) + 1 := by omega
        have hl2 : (nr : Int) + 1 ≤ (c : Int) := by omega
        have e1 : nr + 1 - 1 = nr := by omega
        have enb : ((nr : Int) + 1 == 0) = false := by simp; omega
        obtain ⟨o1, o2, o3⟩ := o
        simp only at z0 z1 z2
        have hun : Tryz.prog.underlying 40 = some (.array 7 22) := by kernel_rfl
        have hsz : (Tryz.prog.info? 40).map (·.size) = some ((rowsV V).toArray).size := by kernel_rfl
        have hold : (#[.slice none 0 0, .slice none 0 0, .slice none 0 0, .slice none 0 0, .slice none 0 0, .slice none 0 0, .slice none 0 0] : Array Value).size = ((rowsV V).toArray).size := rfl
        have hone1 : ((rowsV V).toArray).all (·.oneCell') = true := by rw [HRV.out]; simp [Value.oneCell']
        have hRn : Blk (wr.alloc (.cells #[.slice none 0 0, .slice none 0 0, .slice none 0 0, .slice none 0 0, .slice none 0 0, .slice none 0 0, .slice none 0 0] 40)) wr.heap.size 40 [.slice none 0 0, .slice none 0 0, .slice none 0 0, .slice none 0 0, .slice none 0 0, .slice none 0 0, .slice none 0 0] := Blk.new wr _ _
        have hb9 : Below wr.heap.size wr ((wr.alloc (.cells #[.slice none 0 0, .slice none 0 0, .slice none 0 0, .slice none 0 0, .slice none 0 0, .slice none 0 0, .slice none 0 0] 40)).setRow wr.heap.size (rowsV V).toArray) := below_setRow ((Below.refl _ _).alloc (Nat.le_refl _) _) (Nat.le_refl _) _
        have hB9 : Blk ((wr.alloc (.cells #[.slice none 0 0, .slice none 0 0, .slice none 0 0, .slice none 0 0, .slice none 0 0, .slice none 0 0, .slice none 0 0] 40)).setRow wr.heap.size (rowsV V).toArray) wr.heap.size 40 (rowsV V) := setRow_heap _ _ _ _ 40 _ hRn
        obtain ⟨w9, hw9⟩ : ∃ w9, w9 = ((wr.alloc (.cells #[.slice none 0 0, .slice none 0 0, .slice none 0 0, .slice none 0 0, .slice none 0 0, .slice none 0 0, .slice none 0 0] 40)).setRow wr.heap.size (rowsV V).toArray) := ⟨_, rfl⟩
        rw [← hw9] at hb9 hB9
        have HW9 := Lib.hid hw9
        have hb10 : Below wr.heap.size wr (w9.setCell ⟨wr.heap.size, k, none⟩ V2) := hb9.setCell (Nat.le_refl _) V2
        have hB10 : Blk (w9.setCell ⟨wr.heap.size, k, none⟩ V2) wr.heap.size 40 (rowsV (updV V k V2)) := by rw [hbv]; exact hB9.put k V2
        clear hw9
        have h9 : ∀ u ∈ cellsH [⟨o1, o2, o3⟩], u.oneCell' = true := oneH _
        have hN1 : 1 ≤ N ∧ N ≤ 8 := by have := HN.out; have := HTT.out.2.2; omega
        obtain ⟨hNa, hNb⟩ := hN1
        have HN1 : Hid (N - 1 = (n : Int)) := Lib.hid (by have := HN.out; omega)
        have HC := hide (fun w' (hb : Below wr.heap.size wr w') => show w'.cell? ⟨w.heap.size, k, none⟩ = some (.slice (some ⟨gq, off, none⟩) (nr + 1) c) ∧ w'.cell? ⟨gq, off, none⟩ = some (.int .i64 o1) ∧ w'.cell? ⟨gq, off + 1, none⟩ = some (.int .i64 o2) ∧ w'.cell? ⟨gq, off + 2, none⟩ = some (.int .i64 o3) from by
          have h1 := hb.block gq hgq
          have h2 := hb.block w.heap.size (Nat.lt_of_lt_of_le hg0 hbw.size)
          unfold World.cell? at z0 z1 z2 hp0 ⊢
          rw [h1, h2]
          exact ⟨hp0, z0, z1, z2⟩)
        obtain ⟨p9, y0, y1, y2⟩ := unhide HC w9 hb9
        have s9 := hB9.cellS (rowsV_get V k hlt)
        have f9 := hB9.frozen k
        have HBD := hide (fun w' (hb : Below wr.heap.size wr w') => hbw0.trans (hb.mono hbw0.size))
        have hn8 : n ≤ 8 := by have := HTT.out.2.2; omega
        have hmu := mixU_len n R b k hn8
        have hmt8 := six_len n (updM R k r) (b ++ [⟨o1, o2, o3⟩]) hn8
        have hel := heach.len
        have hone2 := heach.one
        obtain ⟨nu, hnu⟩ : ∃ nu, (mixU n R b k).length = nu := ⟨_, rfl⟩
        have HNU := Lib.hid hnu
        rw [hnu] at hown hmu hel
        have hbL : b.length = nb := HTT.out.2.1
        obtain ⟨nm, hnm⟩ : ∃ nm, (mixL n (updM R k r) (b ++ [⟨o1, o2, o3⟩])).length = nm := ⟨_, rfl⟩
        rw [hnm] at hmt8
        have HNM := Lib.hid hnm
        have HUP : Hid (updM R k r 0 = [] ∧ totR (updM R k r) = n) := Lib.hid ⟨by rw [updM_ne (by omega)]; exact HR0.out, by have := HTT.out.1; omega⟩
        have HUP2 : Hid ((b ++ [(⟨o1, o2, o3⟩ : HOp)]).length = nb + 1 ∧ nb + 1 + n ≤ 8) := Lib.hid ⟨by simp [hbL], by have := HTT.out.2.2; omega⟩
        have HSZ := Lib.hid hbw.size
        have hsz2 : (Tryz.prog.info? 40).map (·.size) = some ((rowsV (updV V k V2)).toArray).size := by kernel_rfl
        have HOW := Lib.hid hown
        have hb88 : (nb + 1) * 24 ≤ 140737488355328 := by have := HTT.out.2.2; omega
        have HGS := Lib.hid (And.intro hlt (And.intro hk1 hT))
        rw [hnu]
        clear hq htl hown heach hbw hbw0 hV hV' hRk hT hsix hbv hmt hnr z0 z1 z2 hg0 hnm
        have hcc : c = 1 ∨ 1 < c := by omega
        rcases hcc with hc1 | hc1
        all_goals first
          | (subst hc1; (obtain rfl : nr = 0 := by omega); (simp only [if_true] at hV2); (have HLit : Hid (Value.slice (some ⟨gq, off, none⟩) 0 0 = V2) := Lib.hid hV2); clear hV2)
          | ((rw [if_neg (by omega)] at hV2); (have HLit : Hid (Value.slice (some ⟨gq, off + 3, none⟩) nr (c - 1) = V2) := Lib.hid hV2); clear hV2)
        all_goals
          go_wp2_with (first
            | (refine wpList_load_row rfl _ _ rfl w.heap.size rfl 40 (rowsV V).toArray (0, 0) (.array 7 22) hB hun rfl hsz ?_)
            | (refine wpList_store_row rfl _ _ _ rfl wr.heap.size (rowsV V).toArray rfl rfl 40 _ hRn hsz hold hone1 ?_; rw [← HW9.out])
            | (at_builtin; rw [HLit.out]; (generalize w9.setCell ⟨wr.heap.size, k, none⟩ V2 = w10 at *); (obtain ⟨q9, x0, x1, x2⟩ := unhide HC w10 hb10); (refine wpList_app rfl (.tmp 32) (.tmp 33) _ rfl w10.heap.size slt_op (n := 0) (xs := []) (m := nb) (news := cellsH b) rfl (World.ownsRow_nil _ _ _ _) rfl (unhide HB w10 (unhide HBD w10 hb10)) (oneH b) (by omega) (Nat.le_refl _) ?_; intro v11 w11 hown11 hg11 hb11 hat11 hne11); (obtain ⟨A11, c11, rfl⟩ := own_slice hown11); (have hs11 := hb11.size); (obtain ⟨q11, t0, t1, t2⟩ := unhide HC w11 (hb10.trans (hb11.mono hb10.size))); (simp only [Nat.zero_add, List.nil_append] at hown11))
            | (at_builtin; (refine wpList_app rfl (.tmp 35) (.tmp 41) _ rfl w10.heap.size slt_op (n := nb) (xs := cellsH b) (m := 1) (news := cellsH [⟨o1, o2, o3⟩]) rfl (own_alloc hown11 _) rfl (rd_new' _ _ (cellsH [⟨o1, o2, o3⟩]) (by simp) rfl) h9 (by omega) (by simp; omega) ?_; intro v12 w12 hown12 hg12 hb12 hat12 hne12); (obtain ⟨A12, c12, rfl⟩ := own_slice hown12); (have hbr12 : Below wr.heap.size wr w12 := ((hb10.trans (hb11.mono hb10.size)).alloc (Nat.le_trans hb10.size hb11.size) _).trans (hb12.mono hb10.size)); (have hB12 := hB10.below ((hb11.alloc hb11.size _).trans hb12) hB10.lt))
            | (refine wpList_load_row rfl _ _ rfl wr.heap.size rfl 40 (rowsV (updV V k V2)).toArray (0, 0) (.array 7 22) hB12 hun rfl hsz2 ?_)
            | (go_at_call 14; rw [HN1.out]; refine (HIH.out (updM R k r) (updV V k V2) (b ++ [⟨o1, o2, o3⟩]) A12 (nb + 1) c12 w12 HUP.out.1 HUP.out.2 HUP2.out.1 HUP2.out.2 (unhide HR7 w12 hbr12) (by rw [cellsH_append]; exact own_mono hown12 (Nat.zero_le _))).mono ?_; rintro e w13 ⟨v13, ys, rfl, hown13, heach13, hb13⟩; (rw [HNM.out] at hown13); (obtain ⟨A13, c13, rfl⟩ := own_slice hown13); (have hbr13 : Below wr.heap.size wr w13 := hbr12.trans (hb13.mono hbr12.size)))
            | (at_builtin; (refine wpList_app rfl (.tmp 48) (.tmp 49) _ rfl w1.heap.size slt_rows (n := nu) (xs := xs) (m := nm) (news := ys) rfl (own_below HOW.out hbr13 (Nat.le_refl _)) rfl (rd_own hown13) heach13.one (by omega) (Nat.le_trans HSZ.out hbr13.size) ?_; intro v14 w14 hown14 hg14 hb14 hat14 hne14)))
          have hbw14 : Below w1.heap.size w1 w14 := (HH.out.2.2.trans (hbr13.mono HSZ.out)).trans hb14
          have hx13 := own_below HOW.out hbr13 (Nat.le_refl _)
          have hea := EachM.app (EachM.other hx13 hg14 (HH.out.2.1.below hbr13)) (EachM.other hx13 hg14 heach13)
          have hms : mixU n R b (k + 1) = mixU n R b k ++ mixL n (updM R k r) (b ++ [⟨o1, o2, o3⟩]) := by rw [HMT.out.1, HMT.out.2]
          rw [← hms] at hea
          have hln : (mixU n R b (k + 1)).length = nu + nm := by rw [hms, List.length_append, HNU.out, HNM.out]
          go_roundw
          case rel => exact ⟨k + 1, xs ++ ys, by omega, by have := HGS.out.1; omega, by go_num, by rw [hln]; exact hown14, hea, hbw14⟩
          case measure => simp [intOf]; omega
    · obtain rfl : k = 7 := by omega
      rw [HUA.out] at hown heach ⊢
      have hbw0 : Below w.heap.size w wr := HB1.out.2.1.trans (hbw.mono HB1.out.2.1.size)
      go_wp2
      go_ret
      exact ⟨_, xs, rfl, own_mono hown (by have := HB1.out.2.2; omega), heach, hbw0⟩
theorem rmix_any : ∀ n, RMixCall n
  | 0 => rmix_zero
  | n + 1 => rmix_succ (rmix_any n)
end Go.Proofs.YtmamejkdheigjaaGreatDoor


namespace Go.Proofs.YtmamejkdheigjaaGreatDoor
open Go.RowKit

/-- A deal's ops, once its turn came. -/
def ofsM (h : List HOp) (k : Nat) (t : Int) : List HOp := if t < (k : Int) then ownL h t else []
theorem ofsM_succ (h : List HOp) (k : Nat) (t : Int) : ofsM h (k + 1) t = if t = (k : Int) then ownL h (k : Int) else ofsM h k t := by
  unfold ofsM
  by_cases e : t = (k : Int)
  · subst e; rw [if_pos (by omega), if_pos rfl]
  · rw [if_neg e]
    by_cases h1 : t < (k : Int)
    · rw [if_pos (by omega), if_pos h1]
    · rw [if_neg (by omega), if_neg h1]
theorem mixL_cong : ∀ (n : Nat) (R R' : Int → List HOp) (b : List HOp), (∀ t ∈ sixI, R t = R' t) → mixL n R b = mixL n R' b
  | 0, _, _, _, _ => rfl
  | n + 1, R, R', b, h => by
    show sixI.flatMap (mixT n R b) = sixI.flatMap (mixT n R' b)
    have hf : ∀ t ∈ sixI, mixT n R b t = mixT n R' b t := fun t ht => by
      unfold mixT
      rw [h t ht]
      split
      · rfl
      · refine mixL_cong n _ _ _ fun x hx => ?_
        unfold updM
        split
        · rfl
        · exact h x hx
    rw [List.flatMap_def, List.flatMap_def, List.map_congr_left hf]
theorem own_lenM {w : World} {base : Nat} {e : TypeId} {v : Value} {n : Nat} {l : List HOp} (h : w.ownsRow base e 3 v n (cellsH l)) : n = l.length := by
  obtain ⟨A, c, rfl⟩ := own_slice h
  exact (rd_own h).hlen.symm
theorem own_zero {h : List HOp} (hok : okH h) {t : Int} (ht : t ∉ sixI) : ownL h t = [] := by
  unfold ownL
  rw [List.filter_eq_nil_iff]
  intro o ho e
  have := okH_six hok o ho
  simp at e
  subst e
  exact ht this
set_option maxRecDepth 100000 in
set_option maxHeartbeats 4000000 in
theorem rallmixes_any (A : Option Addr) (n cap : Nat) (h : List HOp) (w : World) (hr : Rd w w.heap.size 3 A n (cellsH h)) (hok : okH h) (h8 : n ≤ 8) :
    Calls Tryz.prog 5 #[.slice A n cap] w (RMixPost (mixesF h) w) := by
  have hl := hr.hlen
  have HRW := hide (fun w1 (hb : Below w.heap.size w w1) => (hr.below hb).more hb.size)
  have HZ : Hid (∀ k, ofsM h k 0 = []) := Lib.hid (fun k => by
    unfold ofsM
    split
    · exact own_zero hok (by decide)
    · rfl)
  have HT : Hid (totR (ofsM h 7) = n ∧ mixL n (ofsM h 7) [] = mixesF h) := Lib.hid (by
    have he : ∀ t ∈ sixI, ofsM h 7 t = ownL h t := fun t ht => by
      unfold ofsM
      rw [if_pos (by have := mem_six.1 ht; omega)]
    refine ⟨?_, ?_⟩
    · rw [← hl, ← tot_own h (okH_six hok)]
      unfold totR
      rw [he 1 (by decide), he 2 (by decide), he 3 (by decide), he 4 (by decide), he 5 (by decide), he 6 (by decide)]
    · unfold mixesF
      rw [hl]
      exact mixL_cong n _ _ _ he)
  have HNIL : Hid (rowsV (fun _ => .slice none 0 0) = [.slice none 0 0, .slice none 0 0, .slice none 0 0, .slice none 0 0, .slice none 0 0, .slice none 0 0, .slice none 0 0]) := Lib.hid rfl
  have HO1 : Hid (∀ t : Int, 0 ≤ t → t ≤ 6 → ofsM h 1 t = []) := Lib.hid (fun t t0 t6 => by
    unfold ofsM
    split
    · rw [show t = 0 by omega]; exact own_zero hok (by decide)
    · rfl)
  have hb0 : Below w.heap.size w (w.alloc (.cells #[.slice none 0 0, .slice none 0 0, .slice none 0 0, .slice none 0 0, .slice none 0 0, .slice none 0 0, .slice none 0 0] 40)) := (Below.refl _ _).alloc (Nat.le_refl _) _
  have hB0 : Blk (w.alloc (.cells #[.slice none 0 0, .slice none 0 0, .slice none 0 0, .slice none 0 0, .slice none 0 0, .slice none 0 0, .slice none 0 0] 40)) w.heap.size 40 (rowsV (fun _ => .slice none 0 0)) := by
    rw [HNIL.out]
    exact Blk.new w 40 [.slice none 0 0, .slice none 0 0, .slice none 0 0, .slice none 0 0, .slice none 0 0, .slice none 0 0, .slice none 0 0]
  have hz0 : (w.alloc (.cells #[.slice none 0 0, .slice none 0 0, .slice none 0 0, .slice none 0 0, .slice none 0 0, .slice none 0 0, .slice none 0 0] 40)).heap.size = w.heap.size + 1 := by simp
  clear hr hl hok
  go_enter Tryz.func5, Tryz.ntmps5
  go_wp2
  generalize w.alloc (.cells #[.slice none 0 0, .slice none 0 0, .slice none 0 0, .slice none 0 0, .slice none 0 0, .slice none 0 0, .slice none 0 0] 40) = w1 at *
  go_loopw [4] (fun s4 wr => ∃ k : Nat, ∃ V : Int → Value, 1 ≤ k ∧ k ≤ 7 ∧ s4 = .int .i64 k ∧ (∀ t : Int, 0 ≤ t → t ≤ 6 → QRow wr (w.heap.size + 1) 54 (V t) (ofsM h k t)) ∧ Blk wr w.heap.size 40 (rowsV V) ∧ Below w.heap.size w wr ∧ w.heap.size + 1 ≤ wr.heap.size) (fun s4 _ => 7 - (intOf s4).toNat)
  case atStart => exact ⟨1, fun _ => .slice none 0 0, Nat.le_refl _, by omega, rfl, fun t t0 t6 => by rw [HO1.out t t0 t6]; exact QRow.nil _ _ _, hB0, hb0, by omega⟩
  case round =>
    obtain ⟨k, V, hk1, hk7, rfl, hQ, hB, hbw, hsz⟩ := hrel
    by_cases hlt : k < 7
    · have hltI : (k : Int) ≤ 6 := by omega
      have hltI7 : (k : Int) < 7 := by omega
      have hk0i : (0 : Int) ≤ (k : Int) := by omega
      have C := hide (rof_any A n cap h k wr (unhide HRW wr hbw) (by omega))
      have HQ := Lib.hid hQ
      have HO := Lib.hid (ofsM_succ h k)
      have hV := rowsV_get V k hlt
      obtain ⟨A0, c0, hVk⟩ := (hQ k (by omega) (by omega)).shape'
      clear hQ
      go_wp2_with fail
      refine (unhide C).mono ?_
      rintro e w2 ⟨v, m, rfl, ho, hmn, hb2⟩
      have hB2 := hB.below hb2 hB.lt
      have p0 := hB2.cellS hV
      have f0 := hB2.frozen k
      have hq2 : QRow w2 (w.heap.size + 1) 54 v (ownL h k) := QRow.of_own (own_mono ho hsz) (own_lenM ho)
      have HQ3 : Hid (∀ t : Int, 0 ≤ t → t ≤ 6 → QRow (w2.setCell ⟨w.heap.size, k, none⟩ v) (w.heap.size + 1) 54 (updV V k v t) (ofsM h (k + 1) t)) := Lib.hid (fun t t0 t6 => by
        rw [HO.out]
        unfold updV
        by_cases e : t = (k : Int)
        · rw [if_pos e, if_pos e]
          exact hq2.kept fun g hg => Below.heap_setCell w2 _ v g (by have := (hq2.lt hg).1; intro e2; simp only at e2; omega)
        · rw [if_neg e, if_neg e]
          refine (HQ.out t t0 t6).kept fun g hg => ?_
          have hlg := (HQ.out t t0 t6).lt hg
          rw [Below.heap_setCell w2 _ v g (by intro e2; simp only at e2; omega)]
          exact hb2.block g hlg.2)
      have HB3 : Hid (Blk (w2.setCell ⟨w.heap.size, k, none⟩ v) w.heap.size 40 (rowsV (updV V k v))) := Lib.hid (by rw [← rowsV_set V k hlt]; exact hB2.put k v)
      have hbw3 : Below w.heap.size w (w2.setCell ⟨w.heap.size, k, none⟩ v) := (hbw.trans (hb2.mono hbw.size)).setCell (Nat.le_refl _) v
      have HBW := Lib.hid (And.intro hbw3 (show w.heap.size + 1 ≤ (w2.setCell ⟨w.heap.size, k, none⟩ v).heap.size by simpa using Nat.le_trans hsz hb2.size))
      rw [hVk] at p0
      obtain ⟨A5, c5, rfl⟩ := own_slice ho
      clear ho hq2 hB2 hB C HQ HO hbw3 hV hVk hb2 hbw hsz
      go_wp2
      go_roundw
      case rel => exact ⟨k + 1, _, by omega, by omega, by go_num, HQ3.out, HB3.out, HBW.out.1, HBW.out.2⟩
      case measure => simp [intOf]; omega
    · obtain rfl : k = 7 := by omega
      have hun : Tryz.prog.underlying 40 = some (.array 7 22) := by kernel_rfl
      have hszz : (Tryz.prog.info? 40).map (·.size) = some ((rowsV V).toArray).size := by kernel_rfl
      have C := hide (rmix_any n (ofsM h 7) V [] none 0 0 wr (HZ.out 7) HT.out.1 rfl (by omega) (fun t t0 t6 => by
        rcases hQ t t0 t6 with h1 | ⟨g, o, c, cur, h1, h2, h3⟩
        · exact .inl h1
        · exact .inr ⟨g, o, c, cur, h1, Nat.zero_le _, h3⟩) (World.ownsRow_nil _ _ _ _))
      rw [HT.out.2] at C
      have HBW := Lib.hid hbw
      clear hQ hbw HT
      go_wp2_with (first
        | (refine wpList_load_row rfl _ _ rfl w.heap.size rfl 40 (rowsV V).toArray (0, 0) (.array 7 22) hB hun rfl hszz ?_)
        | fail)
      refine (unhide C).mono ?_
      rintro e w2 ⟨v, xs, rfl, ho, he, hb2⟩
      go_wp2
      go_ret
      exact ⟨v, xs, rfl, own_mono ho HBW.out.size, he, HBW.out.trans (hb2.mono HBW.out.size)⟩
end Go.Proofs.YtmamejkdheigjaaGreatDoor
