
/-
  PLAIN: how many orders are good; who only reads is always good; of two deals as many orders as ways to choose.
  CONTRACT of mix.Good.
-/
import Derived.Test.YtmamejkdheigjaaMixP
import Derived.Test.YtmamejkdheigjaaStampP
import Derived.Test.YtmamejkdheigjaaMX2
import Derived.Test.YtmamejkdheigjaaSE1

namespace Go.Proofs.Ytmamejkdheigjaa
open Go.RowKit

/-- How many orders are good. -/
def goodN (l : List (List HOp)) : Nat := (l.filter fun m => (orderOf m).isSome).length
def serialM (h : List HOp) : List HOp := sixI.flatMap fun t => ownL h t
theorem oddB_ne {a b : HOp} (h : oddB a b = true) : a.tx ≠ b.tx := by
  unfold oddB at h
  simp at h
  exact fun e => by simp_all
theorem rise_pw {h : List HOp} (hp : h.Pairwise fun a b => a.tx ≤ b.tx) : ∀ e ∈ edgesF h, e.1 < e.2 := by
  intro e he
  rw [mem_edgesF] at he
  obtain ⟨x, y⟩ := e
  obtain ⟨i, k, a, b, hik, ha, hb, ho, rfl, rfl⟩ := mem_edgeP.1 he
  have hd : (doneL h).Pairwise fun a b => a.tx ≤ b.tx := by
    rw [show doneL h = h.filter fun x => (flagsF h).getD x.tx.toNat false from rfl]
    exact hp.filter _
  have h1 := List.pairwise_iff_getElem.1 hd i k (List.getElem?_eq_some_iff.1 ha).1 (List.getElem?_eq_some_iff.1 hb).1 hik
  rw [(List.getElem?_eq_some_iff.1 ha).2, (List.getElem?_eq_some_iff.1 hb).2] at h1
  have h2 := oddB_ne ho
  show a.tx < b.tx
  omega
theorem serialM_pw (h : List HOp) : (serialM h).Pairwise fun a b => a.tx ≤ b.tx := by
  unfold serialM
  rw [List.pairwise_flatMap]
  refine ⟨fun t _ => ?_, ?_⟩
  · exact List.pairwise_of_forall_mem_list fun a ha b hb => by rw [own_tx h t a ha, own_tx h t b hb]; exact Int.le_refl _
  · have hs : sixI.Pairwise (fun a b => a < b) := by decide
    refine hs.imp ?_
    intro a b hab x hx y hy
    rw [own_tx h a x hx, own_tx h b y hy]; omega
theorem ownM_ne (h : List HOp) {t u : Int} (hne : u ≠ t) : ownL (ownL h u) t = [] := by
  unfold ownL
  rw [List.filter_filter, List.filter_eq_nil_iff]
  intro o _
  simp
  intro e1 e2
  exact hne (e2.symm.trans e1)
theorem ownM_same (h : List HOp) (t : Int) : ownL (ownL h t) t = ownL h t := by
  unfold ownL
  rw [List.filter_filter]
  simp
theorem ownL_app (a b : List HOp) (t : Int) : ownL (a ++ b) t = ownL a t ++ ownL b t := by unfold ownL; rw [List.filter_append]
theorem serialM_own (h : List HOp) : ∀ t ∈ sixI, ownL (serialM h) t = ownL h t := by
  intro t ht
  simp only [sixI, List.mem_cons, List.not_mem_nil, or_false] at ht
  simp only [serialM, sixI, List.flatMap_cons, List.flatMap_nil, ownL_app, List.append_nil]
  rcases ht with rfl | rfl | rfl | rfl | rfl | rfl <;> simp [ownM_same, ownM_ne]
theorem serialM_len {h : List HOp} (hx : ∀ o ∈ h, o.tx ∈ sixI) : (serialM h).length = h.length := by
  have := tot_own h hx
  unfold totR at this
  dsimp only at this
  simp only [serialM, sixI, List.flatMap_cons, List.flatMap_nil, List.append_nil, List.length_append]
  omega
theorem serialM_in {h : List HOp} (hk : okH h) : serialM h ∈ mixesF h ∧ (orderOf (serialM h)).isSome = true := by
  refine ⟨mixes_all (serialM_len (okH_six hk)) (fun o ho => ?_) (serialM_own h), ?_⟩
  · obtain ⟨t, ht, h1⟩ := List.mem_flatMap.1 ho
    rw [own_tx h t o h1]; exact ht
  · rw [order_rise (rise_pw (serialM_pw h))]; rfl
theorem good_some {h : List HOp} (hk : okH h) : 1 ≤ goodN (mixesF h) ∧ goodN (mixesF h) ≤ (mixesF h).length := by
  refine ⟨?_, List.length_filter_le _ _⟩
  have h1 : serialM h ∈ (mixesF h).filter fun m => (orderOf m).isSome := List.mem_filter.2 (serialM_in hk)
  exact List.length_pos_of_mem h1
/-- Who only reads is always good. -/
theorem good_reads {h : List HOp} (hk : okH h) (hr : ∀ o ∈ h, o.what = 1) : goodN (mixesF h) = (mixesF h).length := by
  unfold goodN
  rw [List.filter_eq_self.2]
  intro m hm
  have hm2 : ∀ o ∈ m, o.what = 1 := fun o ho => by
    obtain ⟨_, _, _, h4⟩ := mix_own h.length _ [] (own_tx h) (tot_own h (okH_six hk)) m hm
    rcases h4 o ho with h | ⟨t, _, h⟩
    · cases h
    · exact hr o (List.mem_filter.1 h).1
  have he : ∀ e ∈ edgesF m, e.1 < e.2 := fun e he => by
    rw [mem_edgesF] at he
    obtain ⟨x, y⟩ := e
    obtain ⟨i, k, a, b, _, ha, hb, ho, _, _⟩ := mem_edgeP.1 he
    have h3 := hm2 a (List.mem_filter.1 (List.mem_of_getElem? ha)).1
    have h4 := hm2 b (List.mem_filter.1 (List.mem_of_getElem? hb)).1
    unfold oddB at ho
    rw [h3, h4] at ho
    simp at ho
  rw [order_rise he]; rfl
def twoM (n m : Nat) : List HOp := List.replicate n ⟨1, 1, 1⟩ ++ List.replicate m ⟨2, 1, 1⟩
/-- The number that is wanted: m + 1 over 1, and so on. -/
def wantM (m : Int) : Nat → Int
  | 0 => 1
  | n + 1 => wantM m n * (m + (n + 1)) / (n + 1)
theorem two_fin : ∀ n : Fin 9, ∀ m : Fin 9, n.val + m.val ≤ 8 → ((mixesF (twoM n.val m.val)).length : Int) = wantM m.val n.val ∧ (checkF (twoM n.val m.val)).2 = 0 := by decide +kernel
theorem want_fin : ∀ j : Fin 9, ∀ m : Fin 9, (wantM m.val j.val * ((m.val : Int) + (j.val + 1))).tdiv (j.val + 1) = wantM m.val (j.val + 1) ∧ 0 ≤ wantM m.val j.val ∧ wantM m.val j.val ≤ 20000 := by decide +kernel
theorem want_step {M j : Nat} (hM : M ≤ 8) (hj : j ≤ 8) : (wantM M j * ((M : Int) + (j + 1))).tdiv (j + 1) = wantM M (j + 1) ∧ 0 ≤ wantM M j ∧ wantM M j ≤ 20000 := want_fin ⟨j, by omega⟩ ⟨M, by omega⟩
theorem two_all {N M : Nat} (h : N + M ≤ 8) : okH (twoM N M) ∧ ((mixesF (twoM N M)).length : Int) = wantM M N ∧ (goodN (mixesF (twoM N M)) : Int) = wantM M N := by
  obtain ⟨h1, h2⟩ := two_fin ⟨N, by omega⟩ ⟨M, by omega⟩ h
  simp only at h1 h2
  refine ⟨h2, h1, ?_⟩
  rw [good_reads h2 fun o ho => ?_]
  · exact h1
  · unfold twoM at ho
    rcases List.mem_append.1 ho with ho | ho
    · rw [(List.mem_replicate.1 ho).2]
    · rw [(List.mem_replicate.1 ho).2]
end Go.Proofs.Ytmamejkdheigjaa


namespace Go.Proofs.Ytmamejkdheigjaa
open Go.RowKit

theorem call_good1 (args : Array Value) (w : World) : (callFunc 16 args).run Try.prog w = .ok (.enter 16 args) w := by kernel_rfl
set_option maxHeartbeats 1000000 in
theorem good1_any (g : Nat) (A : Option Addr) (n c : Nat) (m : List HOp) (q : Nat) (hq : q ≤ 2000000) (W : World) (hr : Rd W W.heap.size 3 A n (cellsH m)) (hok : okH m) (hB : Blk W g 3 [.int .i64 (q : Int)]) :
    Calls Try.prog 16 #[.slice A n c, .pointer (some ⟨g, 0, none⟩)] W fun e W' => e = .returned (.bool true) ∧ Chg (fun k => k = g) W W' ∧ Blk W' g 3 [.int .i64 ((q + (if (orderOf m).isSome = true then 1 else 0) : Nat) : Int)] := by
  have C := hide (orderOf_any A n c m W hr hok)
  unfold OrdPost at C
  have hgl := hB.lt
  have HB := Lib.hid hB
  obtain ⟨z, hz⟩ : ∃ z : Nat, z = (if (orderOf m).isSome = true then 1 else 0) := ⟨_, rfl⟩
  rw [← hz]
  have HZ := Lib.hid hz
  clear hr hok hB hz
  go_enter Try.func16, Try.ntmps16
  go_wp2_with fail
  refine (unhide C).mono ?_
  rintro e w1 ⟨v, k, r, L, rfl, ho, hcs, hb1⟩
  obtain ⟨A1, c1, rfl⟩ := own_slice ho
  have hB1 := HB.out.below hb1 hgl
  have c0 := hB1.cellS (i := 0) (v := .int .i64 (q : Int)) rfl
  have f0 := hB1.frozen 0
  have hc1 : Chg (fun k => k = g) W w1 := Chg.of_below hb1
  rcases hcs with ⟨ht, rfl⟩ | ⟨ht, rfl, _⟩
  · obtain ⟨h1, h2⟩ := blk_set_chg hB1 0 (.int .i64 ((q : Int) + 1))
    have hc2 := hc1.trans h1
    have HT : Hid (z = 1) := Lib.hid (by rw [HZ.out, ht]; rfl)
    clear ht h1 hB1 ho hb1 C HZ
    go_wp2
    go_ret
    exact ⟨rfl, hc2, by rw [HT.out]; simpa using h2⟩
  · have HT : Hid (z = 0) := Lib.hid (by rw [HZ.out, ht]; rfl)
    clear ht ho hb1 C HZ
    go_wp2
    go_ret
    exact ⟨rfl, hc1, by rw [HT.out]; exact hB1⟩
theorem goodN_snoc (l : List (List HOp)) (m : List HOp) : goodN (l ++ [m]) = goodN l + (if (orderOf m).isSome = true then 1 else 0) := by
  unfold goodN
  rw [List.filter_append, List.length_append]
  congr 1
  by_cases h : (orderOf m).isSome = true <;> simp [h]
theorem goodN_le (l : List (List HOp)) : goodN l ≤ l.length := List.length_filter_le _ _
set_option maxHeartbeats 1000000 in
theorem good_ok (A : Option Addr) (n c : Nat) (h : List HOp) (w : World) (hr : Rd w w.heap.size 3 A n (cellsH h)) (hok : okH h) (h8 : n ≤ 8) :
    Calls Try.prog 6 #[.slice A n c] w fun e w' => e = .returned (.tuple #[.int .i64 (goodN (mixesF h) : Int), .nilIface]) ∧ Below w.heap.size w w' := by
  have hl := hr.hlen
  have C := hide (ready_any A n c h w hr (by omega))
  rw [mixE_ok hok (by omega), errV_zero] at C
  have hML := mixes_len (h := h) (by omega)
  have HRW := hide (fun w1 (hb : Below w.heap.size w w1) => (hr.below hb).more hb.size)
  have HOK := Lib.hid hok
  have HMLN := Lib.hid hML
  clear hr hok hl hML
  go_enter Try.func6, Try.ntmps6
  go_wp2_with fail
  refine (unhide C).mono ?_
  rintro e w1 ⟨rfl, hb1⟩
  have hB := Blk.new w1 3 [.int .i64 0]
  have hbw := hb1.alloc hb1.size (.cells #[.int .i64 0] 3)
  have CE := hide (each_any A n c h 16 #[.pointer (some ⟨w1.heap.size, 0, none⟩)] (fun k => k = w1.heap.size) (fun _ => cntJ w1.heap.size goodN) (fun _ _ _ => False) _ (unhide HRW _ hbw) HOK.out (fun gr hgr => ⟨call_good1, fun pre m A' n' c' W hp hJ _ hst => by
      have hlen : (pre ++ [m]).length ≤ 1679616 := Nat.le_trans hp.length_le HMLN.out
      rw [List.length_append, List.length_singleton] at hlen
      have hg := goodN_le pre
      have hm : m ∈ mixesF h := hp.subset (by simp)
      refine (good1_any w1.heap.size A' n' c' m (goodN pre) (by omega) W (hst W (Chg.refl _ _)) (mixes_own HOK.out hm).2.2 hJ).mono ?_
      rintro e W' ⟨rfl, h1, h2⟩
      exact ⟨h1, .inl ⟨rfl, by unfold cntJ; rw [goodN_snoc]; exact h2⟩⟩,
    fun pre W W' hJ hc => Blk.chg hJ hc (fun e => by simp at hgr; omega), fun _ _ _ h _ => h⟩) (fun k hk => by rw [hk]; simp) (fun _ _ => hB))
  clear C hB
  go_wp2_with fail
  refine (unhide CE).mono ?_
  rintro e w2 ⟨⟨v, rfl⟩, hc2, gr, hJ | ⟨p, q, _, _, hJ⟩⟩
  · have c0 := Blk.cellS hJ (i := 0) (v := .int .i64 (goodN (mixesF h) : Int)) rfl
    have hbw2 : Below w.heap.size w w2 := hbw.trans (hc2.below (fun k hk => by rw [hk]; exact hb1.size) (Nat.le_trans hb1.size (by simp)))
    clear hJ hc2 CE
    go_wp2
    go_ret2
    exact ⟨rfl, hbw2⟩
  · exact hJ.elim
set_option maxHeartbeats 1000000 in
theorem good_no (A : Option Addr) (n c : Nat) (h : List HOp) (w : World) (hr : Rd w w.heap.size 3 A n (cellsH h)) (hm : n ≤ 6000000000000) (he : mixE h ≠ 0) :
    Calls Try.prog 6 #[.slice A n c] w fun e w' => e = .returned (.tuple #[.int .i64 0, errV (mixE h)]) ∧ Below w.heap.size w w' := by
  have C := hide (ready_any A n c h w hr hm)
  rw [ne_errV he] at C ⊢
  generalize mixE h = ev at *
  clear hr he
  go_enter Try.func6, Try.ntmps6
  go_wp2_with fail
  refine (unhide C).mono ?_
  rintro e w1 ⟨rfl, hb1⟩
  go_wp2
  go_ret2
  exact ⟨rfl, hb1⟩
end Go.Proofs.Ytmamejkdheigjaa
