
/-
  PLAIN: how many orders are good; who only reads is always good; of two deals as many orders as ways to choose.
  CONTRACT of mix.Good.
  CONTRACT of mix.Nth; of mix.Count where ops are refused.
  CONTRACT of lanetop.one: a closed fact that holds.
-/
import Derived.Test.YtmehghkpghbpjaaGreatQ25
import Derived.Test.YtmehghkpghbpjaaGreatQ41
import Derived.Test.YtmehghkpghbpjaaGreatQ43
import Derived.Test.YtmehghkpghbpjaaGreatQ45

namespace Go.Proofs.YtmehghkpghbpjaaGreat
open Go.RowKit

/-- How many orders are good. -/
def goodN (l : List (List HOp)) : Nat := (l.filter fun m => (orderOf m).isSome).length
def serialM (h : List HOp) : List HOp := sixI.flatMap fun t => ownL h t
theorem oddB_ne {a b : HOp} (h : oddB a b = true) : a.tx ≠ b.tx := by
  unfold oddB at h
  simp at h
  exact fun e => by simp_all
theorem rise_pw {h : List HOp} (hp : h.Pairwise fun a b => a.tx ≤ b.tx) : ∀ e ∈ edgesF h, e.1 < e.2 := by
  intro e he
  rw [mem_edgesF] at he
  obtain ⟨x, y⟩ := e
  obtain ⟨i, k, a, b, hik, ha, hb, ho, rfl, rfl⟩ := mem_edgeP.1 he
  have hd : (doneL h).Pairwise fun a b => a.tx ≤ b.tx := by
    rw [show doneL h = h.filter fun x => (flagsF h).getD x.tx.toNat false from rfl]
    exact hp.filter _
  have h1 := List.pairwise_iff_getElem.1 hd i k (List.getElem?_eq_some_iff.1 ha).1 (List.getElem?_eq_some_iff.1 hb).1 hik
  rw [(List.getElem?_eq_some_iff.1 ha).2, (List.getElem?_eq_some_iff.1 hb).2] at h1
  have h2 := oddB_ne ho
  show a.tx < b.tx
  omega
theorem serialM_pw (h : List HOp) : (serialM h).Pairwise fun a b => a.tx ≤ b.tx := by
  unfold serialM
  rw [List.pairwise_flatMap]
  refine ⟨fun t _ => ?_, ?_⟩
  · exact List.pairwise_of_forall_mem_list fun a ha b hb => by rw [own_tx h t a ha, own_tx h t b hb]; exact Int.le_refl _
  · have hs : sixI.Pairwise (fun a b => a < b) := by decide
    refine hs.imp ?_
    intro a b hab x hx y hy
    rw [own_tx h a x hx, own_tx h b y hy]; omega
theorem ownM_ne (h : List HOp) {t u : Int} (hne : u ≠ t) : ownL (ownL h u) t = [] := by
  unfold ownL
  rw [List.filter_filter, List.filter_eq_nil_iff]
  intro o _
  simp
  intro e1 e2
  exact hne (e2.symm.trans e1)
theorem ownM_same (h : List HOp) (t : Int) : ownL (ownL h t) t = ownL h t := by
  unfold ownL
  rw [List.filter_filter]
  simp
theorem ownL_app (a b : List HOp) (t : Int) : ownL (a ++ b) t = ownL a t ++ ownL b t := by unfold ownL; rw [List.filter_append]
theorem serialM_own (h : List HOp) : ∀ t ∈ sixI, ownL (serialM h) t = ownL h t := by
  intro t ht
  simp only [sixI, List.mem_cons, List.not_mem_nil, or_false] at ht
  simp only [serialM, sixI, List.flatMap_cons, List.flatMap_nil, ownL_app, List.append_nil]
  rcases ht with rfl | rfl | rfl | rfl | rfl | rfl <;> simp [ownM_same, ownM_ne]
theorem serialM_len {h : List HOp} (hx : ∀ o ∈ h, o.tx ∈ sixI) : (serialM h).length = h.length := by
  have := tot_own h hx
  unfold totR at this
  dsimp only at this
  simp only [serialM, sixI, List.flatMap_cons, List.flatMap_nil, List.append_nil, List.length_append]
  omega
theorem serialM_in {h : List HOp} (hk : okH h) : serialM h ∈ mixesF h ∧ (orderOf (serialM h)).isSome = true := by
  refine ⟨mixes_all (serialM_len (okH_six hk)) (fun o ho => ?_) (serialM_own h), ?_⟩
  · obtain ⟨t, ht, h1⟩ := List.mem_flatMap.1 ho
    rw [own_tx h t o h1]; exact ht
  · rw [order_rise (rise_pw (serialM_pw h))]; rfl
theorem good_some {h : List HOp} (hk : okH h) : 1 ≤ goodN (mixesF h) ∧ goodN (mixesF h) ≤ (mixesF h).length := by
  refine ⟨?_, List.length_filter_le _ _⟩
  have h1 : serialM h ∈ (mixesF h).filter fun m => (orderOf m).isSome := List.mem_filter.2 (serialM_in hk)
  exact List.length_pos_of_mem h1
/-- Who only reads is always good. -/
theorem good_reads {h : List HOp} (hk : okH h) (hr : ∀ o ∈ h, o.what = 1) : goodN (mixesF h) = (mixesF h).length := by
  unfold goodN
  rw [List.filter_eq_self.2]
  intro m hm
  have hm2 : ∀ o ∈ m, o.what = 1 := fun o ho => by
    obtain ⟨_, _, _, h4⟩ := mix_own h.length _ [] (own_tx h) (tot_own h (okH_six hk)) m hm
    rcases h4 o ho with h | ⟨t, _, h⟩
    · cases h
    · exact hr o (List.mem_filter.1 h).1
  have he : ∀ e ∈ edgesF m, e.1 < e.2 := fun e he => by
    rw [mem_edgesF] at he
    obtain ⟨x, y⟩ := e
    obtain ⟨i, k, a, b, _, ha, hb, ho, _, _⟩ := mem_edgeP.1 he
    have h3 := hm2 a (List.mem_filter.1 (List.mem_of_getElem? ha)).1
    have h4 := hm2 b (List.mem_filter.1 (List.mem_of_getElem? hb)).1
    unfold oddB at ho
    rw [h3, h4] at ho
    simp at ho
  rw [order_rise he]; rfl
def twoM (n m : Nat) : List HOp := List.replicate n ⟨1, 1, 1⟩ ++ List.replicate m ⟨2, 1, 1⟩
/-- The number that is wanted: m + 1 over 1, and so on. -/
def wantM (m : Int) : Nat → Int
  | 0 => 1
  | n + 1 => wantM m n * (m + (n + 1)) / (n + 1)
theorem two_fin : ∀ n : Fin 9, ∀ m : Fin 9, n.val + m.val ≤ 8 → ((mixesF (twoM n.val m.val)).length : Int) = wantM m.val n.val ∧ (checkF (twoM n.val m.val)).2 = 0 := by decide +kernel
theorem want_fin : ∀ j : Fin 9, ∀ m : Fin 9, (wantM m.val j.val * ((m.val : Int) + (j.val + 1))).tdiv (j.val + 1) = wantM m.val (j.val + 1) ∧ 0 ≤ wantM m.val j.val ∧ wantM m.val j.val ≤ 20000 := by decide +kernel
theorem want_step {M j : Nat} (hM : M ≤ 8) (hj : j ≤ 8) : (wantM M j * ((M : Int) + (j + 1))).tdiv (j + 1) = wantM M (j + 1) ∧ 0 ≤ wantM M j ∧ wantM M j ≤ 20000 := want_fin ⟨j, by omega⟩ ⟨M, by omega⟩
theorem two_all {N M : Nat} (h : N + M ≤ 8) : okH (twoM N M) ∧ ((mixesF (twoM N M)).length : Int) = wantM M N ∧ (goodN (mixesF (twoM N M)) : Int) = wantM M N := by
  obtain ⟨h1, h2⟩ := two_fin ⟨N, by omega⟩ ⟨M, by omega⟩ h
  simp only at h1 h2
  refine ⟨h2, h1, ?_⟩
  rw [good_reads h2 fun o ho => ?_]
  · exact h1
  · unfold twoM at ho
    rcases List.mem_append.1 ho with ho | ho
    · rw [(List.mem_replicate.1 ho).2]
    · rw [(List.mem_replicate.1 ho).2]
end Go.Proofs.YtmehghkpghbpjaaGreat


namespace Go.Proofs.YtmehghkpghbpjaaGreat
open Go.RowKit

theorem goodN_snoc (l : List (List HOp)) (m : List HOp) : goodN (l ++ [m]) = goodN l + (if (orderOf m).isSome = true then 1 else 0) := by
  unfold goodN
  rw [List.filter_append, List.length_append]
  congr 1
  by_cases h : (orderOf m).isSome = true <;> simp [h]
theorem goodN_le (l : List (List HOp)) : goodN l ≤ l.length := List.length_filter_le _ _
end Go.Proofs.YtmehghkpghbpjaaGreat


namespace Go.Proofs.YtmehghkpghbpjaaGreat
open Go.RowKit

theorem call_nth1 (args : Array Value) (w : World) : (callFunc 24 args).run Tryz.prog w = .ok (.enter 24 args) w := by kernel_rfl
/-- The blocks of Nth's closure. -/
def nthS (gn go gf : Nat) : Nat → Prop := fun j => j = gn ∨ j = go ∨ j = gf
set_option maxRecDepth 100000 in
set_option maxHeartbeats 2000000 in
theorem nth1_any (gn gk go gf : Nat) (hne : gn ≠ go ∧ gn ≠ gf ∧ go ≠ gf ∧ gk ≠ gn ∧ gk ≠ go ∧ gk ≠ gf) (A A0 : Option Addr) (n c n0 c0 : Nat) (q : Int) (k : Int) (hq : -1 ≤ q ∧ q ≤ 2000000) (W : World) (h1 : Blk W gn 3 [.int .i64 q]) (h2 : Blk W gk 3 [.int .i64 k]) (h3 : Blk W go 22 [.slice A0 n0 c0]) (h4 : Blk W gf 4 [.bool false]) :
    Calls Tryz.prog 24 #[.slice A n c, .pointer (some ⟨gn, 0, none⟩), .pointer (some ⟨gk, 0, none⟩), .pointer (some ⟨go, 0, none⟩), .pointer (some ⟨gf, 0, none⟩)] W fun e W' => e = .returned (.bool (!(q + 1 == k))) ∧ Chg (nthS gn go gf) W W' ∧ Blk W' gn 3 [.int .i64 (q + 1)] ∧ Blk W' gk 3 [.int .i64 k] ∧ Blk W' go 22 [.slice A n c] ∧ Blk W' gf 4 [.bool (q + 1 == k)] := by
  obtain ⟨n1, n2, n3, n4, n5, n6⟩ := hne
  obtain ⟨q1, q2⟩ := hq
  have c1 := h1.cellS (i := 0) (v := .int .i64 q) rfl
  have f1 := h1.frozen 0
  have hw1 : Chg (nthS gn go gf) W (W.setCell ⟨gn, 0, none⟩ (.int .i64 (q + 1))) := (Chg.refl _ _).set (p := ⟨gn, 0, none⟩) (.inl (.inl rfl)) _
  have b1 := h1.put 0 (.int .i64 (q + 1))
  have b2 := h2.far (p := ⟨gn, 0, none⟩) (by simpa using n4) (.int .i64 (q + 1))
  have b3 := h3.far (p := ⟨gn, 0, none⟩) (by simpa using fun e => n1 e.symm) (.int .i64 (q + 1))
  have b4 := h4.far (p := ⟨gn, 0, none⟩) (by simpa using fun e => n2 e.symm) (.int .i64 (q + 1))
  clear h1 h2 h3 h4
  go_enter Tryz.func24, Tryz.ntmps24
  go_wp2_with fail
  generalize W.setCell ⟨gn, 0, none⟩ (.int .i64 (q + 1)) = w1 at *
  have m1 := b1.cellS (i := 0) (v := .int .i64 (q + 1)) rfl
  have m2 := b2.cellS (i := 0) (v := .int .i64 k) rfl
  have m3 := b3.cellS (i := 0) (v := .slice A0 n0 c0) rfl
  have m4 := b4.cellS (i := 0) (v := .bool false) rfl
  have e3 := b3.frozen 0
  have e4 := b4.frozen 0
  go_region
  all_goals
    have d1 := ((b1.far (p := ⟨go, 0, none⟩) (by simpa using n1) (.slice A n c)).far (p := ⟨gf, 0, none⟩) (by simpa using n2) (.bool (q + 1 == k))).drew
    have d2 := ((b2.far (p := ⟨go, 0, none⟩) (by simpa using n5) (.slice A n c)).far (p := ⟨gf, 0, none⟩) (by simpa using n6) (.bool (q + 1 == k))).drew
    have d3 := ((b3.put 0 (.slice A n c)).far (p := ⟨gf, 0, none⟩) (by simpa using n3) (.bool (q + 1 == k))).drew
    have d4 := ((b4.far (p := ⟨go, 0, none⟩) (by simpa using fun e => n3 e.symm) (.slice A n c)).put 0 (.bool (q + 1 == k))).drew
    have hw2 : Chg (nthS gn go gf) W ((w1.setCell ⟨go, 0, none⟩ (.slice A n c)).setCell ⟨gf, 0, none⟩ (.bool (q + 1 == k))).drew := ((hw1.set (p := ⟨go, 0, none⟩) (.inl (.inr (.inl rfl))) _).set (p := ⟨gf, 0, none⟩) (.inl (.inr (.inr rfl))) _).drew
    generalize ((w1.setCell ⟨go, 0, none⟩ (.slice A n c)).setCell ⟨gf, 0, none⟩ (.bool (q + 1 == k))).drew = w2 at *
    have z4 := d4.cellS (i := 0) (v := .bool (q + 1 == k)) rfl
    go_wp2
    go_ret
    exact ⟨rfl, hw2, d1, d2, d3, d4⟩
/-- Which is found, and the fault. -/
def nthE (h : List HOp) (k : Int) : Int := if mixE h ≠ 0 then mixE h else if 0 ≤ k ∧ k < (mixesF h).length then 0 else 1
def nthL (h : List HOp) (k : Int) : List HOp := if nthE h k = 0 then (mixesF h).getD k.toNat [] else []
def NthPost (h : List HOp) (k : Int) (w : World) (e : Ending) (w' : World) : Prop :=
  ∃ A n c, e = .returned (.tuple #[.slice A n c, errV (nthE h k)]) ∧ n ≤ c ∧ Rd w' w'.heap.size 3 A n (cellsH (nthL h k)) ∧ Below w.heap.size w w'
theorem rd_nilM (w : World) (B : Nat) : Rd w B 3 none 0 (cellsH []) := ⟨rfl, fun h => absurd h (Nat.lt_irrefl 0)⟩
set_option maxHeartbeats 1000000 in
theorem nth_no (A : Option Addr) (n c : Nat) (h : List HOp) (k : Int) (w : World) (hr : Rd w w.heap.size 3 A n (cellsH h)) (hm : n ≤ 6000000000000) (he : mixE h ≠ 0) :
    Calls Tryz.prog 6 #[.slice A n c, .int .i64 k] w (NthPost h k w) := by
  have hb0 : Below w.heap.size w (w.alloc (.cells #[.int .i64 k] 3)) := (Below.refl _ _).alloc (Nat.le_refl _) _
  have C := hide (ready_any A n c h _ ((hr.below hb0).more hb0.size) hm)
  have e1 : nthE h k = mixE h := by unfold nthE; rw [if_pos he]
  have e2 : nthL h k = [] := by unfold nthL; rw [if_neg (by rw [e1]; exact he)]
  unfold NthPost
  rw [e1, e2, ne_errV he]
  rw [ne_errV he] at C
  generalize mixE h = ev at *
  clear hr he e1 e2
  go_enter Tryz.func6, Tryz.ntmps6
  go_wp2_with fail
  refine (unhide C).mono ?_
  rintro e w1 ⟨rfl, hb1⟩
  have hbw := hb0.trans (hb1.mono hb0.size)
  go_wp2
  go_ret2
  exact ⟨none, 0, 0, rfl, Nat.le_refl _, rd_nilM _ _, hbw⟩
set_option maxHeartbeats 1000000 in
theorem nth_less (A : Option Addr) (n c : Nat) (h : List HOp) (k : Int) (w : World) (hr : Rd w w.heap.size 3 A n (cellsH h)) (hm : n ≤ 6000000000000) (he : mixE h = 0) (hk : k < 0) :
    Calls Tryz.prog 6 #[.slice A n c, .int .i64 k] w (NthPost h k w) := by
  have hb0 : Below w.heap.size w (w.alloc (.cells #[.int .i64 k] 3)) := (Below.refl _ _).alloc (Nat.le_refl _) _
  have C := hide (ready_any A n c h _ ((hr.below hb0).more hb0.size) hm)
  have e1 : nthE h k = 1 := by unfold nthE; rw [if_neg (by omega), if_neg (by omega)]
  have e2 : nthL h k = [] := by unfold nthL; rw [if_neg (by rw [e1]; decide)]
  unfold NthPost
  rw [e1, e2, show errV 1 = .iface 57 (.int .i64 1) from rfl]
  rw [he, errV_zero] at C
  have hB0 := Blk.new w 3 [.int .i64 k]
  clear hr he e1 e2
  go_enter Tryz.func6, Tryz.ntmps6
  go_wp2_with fail
  refine (unhide C).mono ?_
  rintro e w1 ⟨rfl, hb1⟩
  have hbw := hb0.trans (hb1.mono hb0.size)
  have c0 := (hB0.below hb1 (by simp)).cellS (i := 0) (v := .int .i64 k) rfl
  go_wp2
  go_ret2
  exact ⟨none, 0, 0, rfl, Nat.le_refl _, rd_nilM _ _, hbw⟩
def nthJ (gn gk go gf : Nat) (k : Int) : List (List HOp) → World → Prop := fun pre W => Blk W gn 3 [.int .i64 ((pre.length : Int) - 1)] ∧ Blk W gk 3 [.int .i64 k] ∧ (∃ A n c, Blk W go 22 [.slice A n c]) ∧ Blk W gf 4 [.bool false] ∧ (pre.length : Int) ≤ k
def nthX (gn go gf : Nat) (k : Int) (gr : Nat) : List (List HOp) → World → Prop := fun ps W => ∃ pre m A n c, ps = pre ++ [m] ∧ (pre.length : Int) = k ∧ Blk W go 22 [.slice A n c] ∧ Blk W gf 4 [.bool true] ∧ n ≤ c ∧ ∀ W', Chg (fun j => j = gr ∨ nthS gn go gf j) W W' → Rd W' W'.heap.size 3 A n (cellsH m)
theorem nth_see (h : List HOp) (h8 : h.length ≤ 8) (gn gk go gf : Nat) (hne : gn ≠ go ∧ gn ≠ gf ∧ go ≠ gf ∧ gk ≠ gn ∧ gk ≠ go ∧ gk ≠ gf) (k : Int) (gr : Nat) (hgr : gn ≠ gr ∧ gk ≠ gr ∧ go ≠ gr ∧ gf ≠ gr) :
    SeeC gr 24 #[.pointer (some ⟨gn, 0, none⟩), .pointer (some ⟨gk, 0, none⟩), .pointer (some ⟨go, 0, none⟩), .pointer (some ⟨gf, 0, none⟩)] (nthS gn go gf) (mixesF h) (nthJ gn gk go gf k) (nthX gn go gf k gr) := by
  have hML := mixes_len h8
  refine ⟨call_nth1, fun pre m A' n' c' W hp hJ hnc hst => ?_, fun pre W W' hJ hc => ?_, fun ps W W' hX hc => ?_⟩
  · obtain ⟨j1, j2, ⟨A0, n0, c0, j3⟩, j4, j5⟩ := hJ
    have hlen : (pre ++ [m]).length ≤ 1679616 := Nat.le_trans hp.length_le hML
    rw [List.length_append, List.length_singleton] at hlen
    refine (nth1_any gn gk go gf hne A' A0 n' c' n0 c0 ((pre.length : Int) - 1) k ⟨by omega, by omega⟩ W j1 j2 j3 j4).mono ?_
    rintro e W' ⟨rfl, g1, g2, g3, g4, g5⟩
    rw [show (pre.length : Int) - 1 + 1 = pre.length by omega] at g2 g5 ⊢
    refine ⟨g1, ?_⟩
    by_cases hk : (pre.length : Int) = k
    · have e1 : ((pre.length : Int) == k) = true := by simpa using hk
      rw [e1] at g5 ⊢
      exact .inr ⟨rfl, pre, m, A', n', c', rfl, hk, g4, g5, hnc, fun W'' hW => hst W'' ((g1.mono fun j hj => .inl (.inr hj)).trans hW)⟩
    · have e1 : ((pre.length : Int) == k) = false := by simpa using hk
      rw [e1] at g5 ⊢
      refine .inl ⟨rfl, ?_, g3, ⟨A', n', c', g4⟩, g5, ?_⟩
      · rw [List.length_append, List.length_singleton]
        rw [show ((pre.length + 1 : Nat) : Int) - 1 = pre.length by omega]; exact g2
      · rw [List.length_append, List.length_singleton]; omega
  · obtain ⟨j1, j2, ⟨A0, n0, c0, j3⟩, j4, j5⟩ := hJ
    exact ⟨j1.chg hc hgr.1, j2.chg hc hgr.2.1, ⟨A0, n0, c0, j3.chg hc hgr.2.2.1⟩, j4.chg hc hgr.2.2.2, j5⟩
  · obtain ⟨pre, m, A, n, c, x1, x2, x3, x4, x5, x6⟩ := hX
    exact ⟨pre, m, A, n, c, x1, x2, x3.chg hc hgr.2.2.1, x4.chg hc hgr.2.2.2, x5, fun W'' hW => x6 W'' ((hc.mono fun j hj => .inl (.inl hj)).trans hW)⟩

set_option maxRecDepth 100000 in
set_option maxHeartbeats 4000000 in
theorem nth_main (A : Option Addr) (n c : Nat) (h : List HOp) (k : Int) (w : World) (hr : Rd w w.heap.size 3 A n (cellsH h)) (hm : n ≤ 6000000000000) (he : mixE h = 0) (hk : ¬ k < 0) :
    Calls Tryz.prog 6 #[.slice A n c, .int .i64 k] w (NthPost h k w) := by
  have hb0 : Below w.heap.size w (w.alloc (.cells #[.int .i64 k] 3)) := (Below.refl _ _).alloc (Nat.le_refl _) _
  have C := hide (ready_any A n c h _ ((hr.below hb0).more hb0.size) hm)
  rw [he, errV_zero] at C
  obtain ⟨hok, h8⟩ := mixE_zero he
  have hB0 := Blk.new w 3 [.int .i64 k]
  have HRW := hide (fun w1 (hb : Below w.heap.size w w1) => (hr.below hb).more hb.size)
  have HOK := Lib.hid (And.intro he (And.intro hok h8))
  clear hr he hok h8
  go_enter Tryz.func6, Tryz.ntmps6
  go_wp2_with fail
  refine (unhide C).mono ?_
  rintro e w1 ⟨rfl, hb1⟩
  have hbw := hb0.trans (hb1.mono hb0.size)
  have hB1 := hB0.below hb1 (by simp)
  have c0 := hB1.cellS (i := 0) (v := .int .i64 k) rfl
  have hz1 : w.heap.size < w1.heap.size := hB1.lt
  have hb4 : Below w1.heap.size w1 (((w1.alloc (.cells #[.int .i64 (-1)] 3)).alloc (.cells #[.bool false] 4)).alloc (.cells #[.slice none 0 0] 22)) := (((Below.refl _ _).alloc (Nat.le_refl _) _).alloc (by simp) _).alloc (by simp; omega) _
  have g1 := ((Blk.new w1 3 [.int .i64 (-1)]).alloc (.cells #[.bool false] 4)).alloc (.cells #[.slice none 0 0] 22)
  have g2 : Blk (((w1.alloc (.cells #[.int .i64 (-1)] 3)).alloc (.cells #[.bool false] 4)).alloc (.cells #[.slice none 0 0] 22)) (w1.heap.size + 1) 4 [.bool false] := by
    have h := (Blk.new (w1.alloc (.cells #[.int .i64 (-1)] 3)) 4 [.bool false]).alloc (.cells #[.slice none 0 0] 22)
    simpa using h
  have g3 : Blk (((w1.alloc (.cells #[.int .i64 (-1)] 3)).alloc (.cells #[.bool false] 4)).alloc (.cells #[.slice none 0 0] 22)) (w1.heap.size + 1 + 1) 22 [.slice none 0 0] := by
    have h := Blk.new ((w1.alloc (.cells #[.int .i64 (-1)] 3)).alloc (.cells #[.bool false] 4)) 22 [.slice none 0 0]
    simpa using h
  have gK := hB1.below hb4 hz1
  have hz4 : (((w1.alloc (.cells #[.int .i64 (-1)] 3)).alloc (.cells #[.bool false] 4)).alloc (.cells #[.slice none 0 0] 22)).heap.size = w1.heap.size + 3 := by simp
  go_wp2_with fail
  generalize ((w1.alloc (.cells #[.int .i64 (-1)] 3)).alloc (.cells #[.bool false] 4)).alloc (.cells #[.slice none 0 0] 22) = w4 at *
  have hbw4 := hbw.trans (hb4.mono hbw.size)
  have CE := hide (each_any A n c h 24 #[.pointer (some ⟨w1.heap.size, 0, none⟩), .pointer (some ⟨w.heap.size, 0, none⟩), .pointer (some ⟨w1.heap.size + 1 + 1, 0, none⟩), .pointer (some ⟨w1.heap.size + 1, 0, none⟩)] (nthS w1.heap.size (w1.heap.size + 1 + 1) (w1.heap.size + 1)) (fun _ => nthJ w1.heap.size w.heap.size (w1.heap.size + 1 + 1) (w1.heap.size + 1) k) (fun gr => nthX w1.heap.size (w1.heap.size + 1 + 1) (w1.heap.size + 1) k gr) w4 (unhide HRW _ hbw4) HOK.out.2.1
    (fun gr hgr => nth_see h HOK.out.2.2 _ _ _ _ (by omega) k gr (by omega)) (fun j hj => by unfold nthS at hj; omega) (fun _ _ => ⟨g1, gK, ⟨none, 0, 0, g3⟩, g2, by simp; omega⟩))
  have HCB : Hid (∀ W', Chg (nthS w1.heap.size (w1.heap.size + 1 + 1) (w1.heap.size + 1)) w4 W' → Below w.heap.size w W') := Lib.hid (fun W' hc => hbw4.trans (hc.below (fun j hj => by unfold nthS at hj; omega) hbw4.size))
  clear C g1 g2 g3 gK hB0 hB1 hb4 c0 hbw hb0 hb1
  refine (unhide CE).mono ?_
  rintro e W' ⟨⟨v, rfl⟩, hc, gr, hJ | ⟨p, q, hpq, hp, pre, m, A1, n1, c1, x1, x2, x3, x4, x5, x6⟩⟩
  · obtain ⟨_, _, _, j4, j5⟩ := hJ
    have z4 := j4.cellS (i := 0) (v := .bool false) rfl
    have hfin := HCB.out W' hc
    have HE : Hid (nthE h k = 1) := Lib.hid (by unfold nthE; rw [if_neg (by have := HOK.out.1; omega), if_neg (by omega)])
    have HE2 : Hid (nthL h k = []) := Lib.hid (by unfold nthL; rw [if_neg (by rw [HE.out]; decide)])
    clear j4 j5 hc
    go_wp2
    go_ret2
    exact ⟨none, 0, 0, by rw [HE.out]; rfl, Nat.le_refl _, by rw [HE2.out]; exact rd_nilM _ _, hfin⟩
  · have z4 := x4.cellS (i := 0) (v := .bool true) rfl
    have z3 := x3.cellS (i := 0) (v := .slice A1 n1 c1) rfl
    have hfin := HCB.out W' hc
    have hrd := x6 W' (Chg.refl _ _)
    have hat : (mixesF h)[pre.length]? = some m := by
      rw [hpq, x1, List.append_assoc, List.getElem?_append_right (Nat.le_refl _)]
      simp
    have hlt := (List.getElem?_eq_some_iff.1 hat).1
    have HE : Hid (nthE h k = 0) := Lib.hid (by unfold nthE; rw [if_neg (by have := HOK.out.1; omega), if_pos (by omega)])
    have HE2 : Hid (nthL h k = m) := Lib.hid (by
      unfold nthL
      rw [if_pos HE.out, List.getD_eq_getElem?_getD, show k.toNat = pre.length by omega, hat]; rfl)
    clear x3 x4 x6 hc hat hlt hpq hp x1
    go_wp2
    go_ret2
    exact ⟨A1, n1, c1, by rw [HE.out]; rfl, x5, by rw [HE2.out]; exact hrd, hfin⟩
theorem nth_any (A : Option Addr) (n c : Nat) (h : List HOp) (k : Int) (w : World) (hr : Rd w w.heap.size 3 A n (cellsH h)) (hm : n ≤ 6000000000000) :
    Calls Tryz.prog 6 #[.slice A n c, .int .i64 k] w (NthPost h k w) := by
  by_cases he : mixE h = 0
  · by_cases hk : k < 0
    · exact nth_less A n c h k w hr hm he hk
    · exact nth_main A n c h k w hr hm he hk
  · exact nth_no A n c h k w hr hm he
end Go.Proofs.YtmehghkpghbpjaaGreat


namespace Go.Proofs.YtmehghkpghbpjaaGreat
open Go.RowKit

def oneT : List HOp := [⟨2, 2, 1⟩, ⟨2, 3, 0⟩, ⟨1, 1, 1⟩, ⟨1, 3, 0⟩]
theorem oneT_ok : okH oneT := by show (checkF _).2 = 0; decide
theorem oneT_order : orderOf oneT = some [2, 1] := by
  unfold orderOf
  rw [topF_up (dealsL_up _)]
  decide
set_option maxRecDepth 100000 in
set_option maxHeartbeats 1000000 in
theorem one_any (w : World) : Calls Tryz.prog 5 #[] w fun e w' => e = .returned (.bool true) ∧ Below w.heap.size w w' := by
  have hr0 := rd_new w 54 (size := 3) (n := 4) (cellsH oneT) rfl
  have hb0 : Below w.heap.size w (w.alloc (.cells (cellsH oneT).toArray 54)) := (Below.refl _ _).alloc (Nat.le_refl _) _
  have C1 := hide (sorder_any (some ⟨w.heap.size, 0, none⟩) 4 4 oneT _ (hr0.more (by simp)) (by omega))
  rw [(ord_some oneT_ok oneT_order).1, (ord_some oneT_ok oneT_order).2, errV_zero] at C1
  have HB0 := hide hb0
  clear hb0 hr0
  go_enter Tryz.func5, Tryz.ntmps5
  go_wp2_with fail
  refine (unhide C1).mono ?_
  rintro e w1 ⟨v1, k1, rfl, ho1, hb1⟩
  obtain ⟨A1, c1, rfl⟩ := own_slice ho1
  obtain rfl : k1 = 2 := by rw [← own_ilen ho1]; rfl
  have hbw1 := (unhide HB0).trans (hb1.mono (unhide HB0).size)
  have hd1 := rd_own ho1
  obtain ⟨b, off, x, he, _, hx, q0⟩ := hd1.int (k := 0) (by omega)
  cases he
  cases hx
  rw [Nat.add_zero] at q0
  clear C1 hb1 ho1 hd1 HB0
  go_wp2
  go_ret
  exact ⟨rfl, hbw1⟩
end Go.Proofs.YtmehghkpghbpjaaGreat
