
/-
  CONTRACT of mix.each.
  CONTRACTS of mix.ready, Count.
-/
import Derived.Test.YtmehghkpghbpjaaGreatQ42
import Derived.Test.YtmehghkpghbpjaaGreatQ23
import Derived.Laws.EntriesVeiled
import Derived.Test.YtmehghkpghbpjaaGreatQ3

namespace Go.Proofs.YtmehghkpghbpjaaGreat
open Go.RowKit

/-- The rows while they are laid. -/
structure RowsM (w : World) (lo gr : Nat) (V : Int → Value) (R : Int → List HOp) : Prop where
  blk : Blk w gr 108 (rowsV V)
  row : ∀ t : Int, 0 ≤ t → t ≤ 6 → w.ownsRow lo 54 3 (V t) (R t).length (cellsH (R t))
  sep : ∀ t u : Int, 0 ≤ t → t ≤ 6 → 0 ≤ u → u ≤ 6 → t ≠ u → ∀ k, (V t).ownBlock = some k → (V u).ownBlock ≠ some k
  lt : gr < lo
theorem RowsM.below {w w' : World} {lo gr : Nat} {V : Int → Value} {R : Int → List HOp} (h : RowsM w lo gr V R) (hb : Below w.heap.size w w') : RowsM w' lo gr V R :=
  ⟨h.blk.below hb h.blk.lt, fun t h0 h6 => own_below (h.row t h0 h6) hb (Nat.le_refl _), h.sep, h.lt⟩
/-- An op comes to its deal's row. -/
theorem RowsM.put {w w' : World} {lo gr : Nat} {V : Int → Value} {R : Int → List HOp} (h : RowsM w lo gr V R) {t : Nat} (ht : t < 7) {v : Value} {o : HOp} (ho : w'.ownsRow lo 54 3 v ((R t).length + 1) (cellsH (R t) ++ cellsH [o])) (hg : w.grownBy w' (V t).ownBlock) (hn : v.ownBlock = (V t).ownBlock ∨ v.ownBlock = some w.heap.size) :
    RowsM (w'.setCell ⟨gr, t, none⟩ v) lo gr (updV V t v) (updM R t (R t ++ [o])) := by
  have hl := h.lt
  have hblk : Blk w' gr 108 (rowsV V) := h.blk.grown hg (fun k hk e => by have := ((h.row t (by omega) (by omega)).lt k hk).1; omega)
  refine ⟨by rw [← rowsV_set V t ht]; exact hblk.put t v, fun u h0 h6 => ?_, fun u x h0 h6 g0 g6 hne k hk => ?_, hl⟩
  · unfold updV updM
    by_cases e : u = t
    · subst e
      rw [if_pos rfl, if_pos rfl, List.length_append, List.length_singleton, cellsH_append]
      exact own_far ho (p := ⟨gr, t, none⟩) hl v
    · rw [if_neg e, if_neg e]
      have h1 : w'.ownsRow lo 54 3 (V u) (R u).length (cellsH (R u)) := (h.row u h0 h6).kept hg (by
        cases hv : (V u).ownBlock with
        | none => exact .inl rfl
        | some k => exact .inr fun e2 => h.sep u t h0 h6 (by omega) (by omega) e k hv e2.symm)
      exact own_far h1 (p := ⟨gr, t, none⟩) hl v
  · unfold updV at hk ⊢
    by_cases e : u = t
    · subst e
      rw [if_pos rfl] at hk
      rw [if_neg (fun e2 => hne e2.symm)]
      rcases hn with hn | hn
      · exact h.sep t x (by omega) (by omega) g0 g6 hne k (hn.symm.trans hk)
      · intro e2
        have h3 := ((h.row x g0 g6).lt k e2).2
        have := Option.some.inj (hn.symm.trans hk)
        omega
    · rw [if_neg e] at hk
      by_cases e2 : x = t
      · subst e2
        rw [if_pos rfl]
        rcases hn with hn | hn
        · rw [hn]; exact h.sep u t h0 h6 (by omega) (by omega) e k hk
        · intro e3
          have h3 := ((h.row u h0 h6).lt k hk).2
          have := Option.some.inj (hn.symm.trans e3)
          omega
      · rw [if_neg e2]
        exact h.sep u x h0 h6 g0 g6 hne k hk

theorem updM_take {h : List HOp} {k : Nat} {o : HOp} (ho : h[k]? = some o) : updM (fun t => ownL (h.take k) t) o.tx (ownL (h.take k) o.tx ++ [o]) = fun t => ownL (h.take (k + 1)) t := by
  funext t
  unfold updM
  rw [List.take_add_one, ho]
  simp only [Option.toList_some]
  unfold ownL
  rw [List.filter_append]
  by_cases e : t = o.tx
  · subst e
    simp
  · rw [if_neg e]
    have : ¬ o.tx = t := fun e2 => e e2.symm
    simp [this]
set_option maxRecDepth 100000 in
set_option maxHeartbeats 4000000 in
theorem each_any (A : Option Addr) (n c : Nat) (h : List HOp) (F : FuncId) (caps : Array Value) (S : Nat → Prop) (J Jx : Nat → List (List HOp) → World → Prop) (w : World) (hr : Rd w w.heap.size 3 A n (cellsH h)) (hok : okH h) (hS : ∀ gr, w.heap.size ≤ gr → SeeC gr F caps S (mixesF h) (J gr) (Jx gr)) (hSlt : ∀ k, S k → k < w.heap.size) (hJ : ∀ gr, w.heap.size ≤ gr → J gr [] w) :
    Calls Tryz.prog 23 #[.slice A n c, .func (.func F) #[] caps] w fun e W' => (∃ v, e = .returned v) ∧ Chg S w W' ∧ ∃ gr, (J gr (mixesF h) W' ∨ ∃ p q, mixesF h = p ++ q ∧ 0 < p.length ∧ Jx gr p W') := by
  have hm : n ≤ 40 := by rw [← hr.hlen]; exact okH_len hok
  have HL := Lib.hid hr.hlen
  have HSIX := Lib.hid (okH_six hok)
  have HSS := Lib.hid hS
  have HSL := Lib.hid hSlt
  have HJ := Lib.hid hJ
  clear hS hSlt hJ hok
  go_enter Tryz.func23, Tryz.ntmps23
  go_wp2
  have hbw0 : Below w.heap.size w (((w.alloc (.cells #[.slice A n c] 22)).alloc (.cells #[.func (.func F) #[] caps] 55)).alloc (.cells #[.slice none 0 0, .slice none 0 0, .slice none 0 0, .slice none 0 0, .slice none 0 0, .slice none 0 0, .slice none 0 0] 108)) := (((Below.refl _ _).alloc (Nat.le_refl _) _).alloc (by simp) _).alloc (by simp; omega) _
  have hgh := ((Blk.new w 22 [.slice A n c]).alloc (.cells #[.func (.func F) #[] caps] 55)).alloc (.cells #[.slice none 0 0, .slice none 0 0, .slice none 0 0, .slice none 0 0, .slice none 0 0, .slice none 0 0, .slice none 0 0] 108)
  have hgs : Blk (((w.alloc (.cells #[.slice A n c] 22)).alloc (.cells #[.func (.func F) #[] caps] 55)).alloc (.cells #[.slice none 0 0, .slice none 0 0, .slice none 0 0, .slice none 0 0, .slice none 0 0, .slice none 0 0, .slice none 0 0] 108)) (w.heap.size + 1) 55 [.func (.func F) #[] caps] := by
    have h := (Blk.new (w.alloc (.cells #[.slice A n c] 22)) 55 [.func (.func F) #[] caps]).alloc (.cells #[.slice none 0 0, .slice none 0 0, .slice none 0 0, .slice none 0 0, .slice none 0 0, .slice none 0 0, .slice none 0 0] 108)
    simpa using h
  have hgr : Blk (((w.alloc (.cells #[.slice A n c] 22)).alloc (.cells #[.func (.func F) #[] caps] 55)).alloc (.cells #[.slice none 0 0, .slice none 0 0, .slice none 0 0, .slice none 0 0, .slice none 0 0, .slice none 0 0, .slice none 0 0] 108)) (w.heap.size + 1 + 1) 108 (rowsV fun _ => .slice none 0 0) := by
    have h := Blk.new ((w.alloc (.cells #[.slice A n c] 22)).alloc (.cells #[.func (.func F) #[] caps] 55)) 108 (rowsV fun _ => .slice none 0 0)
    simpa [rowsV] using h
  have hz3 : (((w.alloc (.cells #[.slice A n c] 22)).alloc (.cells #[.func (.func F) #[] caps] 55)).alloc (.cells #[.slice none 0 0, .slice none 0 0, .slice none 0 0, .slice none 0 0, .slice none 0 0, .slice none 0 0, .slice none 0 0] 108)).heap.size = w.heap.size + 3 := by simp
  generalize ((w.alloc (.cells #[.slice A n c] 22)).alloc (.cells #[.func (.func F) #[] caps] 55)).alloc (.cells #[.slice none 0 0, .slice none 0 0, .slice none 0 0, .slice none 0 0, .slice none 0 0, .slice none 0 0, .slice none 0 0] 108) = w3 at *
  obtain ⟨gr, hgre⟩ : ∃ gr, w.heap.size + 1 + 1 = gr := ⟨_, rfl⟩
  obtain ⟨gs, hgse⟩ : ∃ gs, w.heap.size + 1 = gs := ⟨_, rfl⟩
  obtain ⟨gh, hghe⟩ : ∃ gh, w.heap.size = gh := ⟨_, rfl⟩
  have HZ := Lib.hid (show gh < gr ∧ gs < gr ∧ w.heap.size ≤ gr ∧ w.heap.size ≤ gh ∧ w.heap.size ≤ gs ∧ w3.heap.size = gr + 1 by omega)
  rw [hgre] at hgr
  rw [hgse] at hgs
  have hgh : Blk w3 gh 22 [.slice A n c] := by rw [← hghe]; exact hgh
  have hR0 : RowsM w3 (gr + 1) gr (fun _ => .slice none 0 0) (fun t => ownL (h.take 0) t) := ⟨hgr, fun t _ _ => World.ownsRow_nil _ _ _ _, (fun t u _ _ _ _ _ k hk => by cases hk), Nat.lt_succ_self _⟩
  have HB0 := Lib.hid (And.intro hgh (And.intro hgs hbw0))
  clear hgh hgs hgr hbw0 hz3
  rw [hgre, hgse, hghe]
  go_loopw [10] (fun s10 wr => ∃ (k : Nat) (V : Int → Value), k ≤ n ∧ s10 = .int .i64 k ∧ RowsM wr (gr + 1) gr V (fun t => ownL (h.take k) t) ∧ Chg (fun j => j = gr) w3 wr) (fun s10 _ => n - (intOf s10).toNat)
  case atStart => exact ⟨0, _, Nat.zero_le _, rfl, hR0, Chg.refl _ _⟩
  case round =>
    clear hR0
    obtain ⟨k, V, hk, rfl, hR, hc⟩ := hrel
    have hbw : Below w.heap.size w wr := HB0.out.2.2.trans (hc.below (fun j hj => by have := HZ.out; omega) (by have := HZ.out; omega))
    have hszr : gr + 1 ≤ wr.heap.size := by have := hc.size; have := HZ.out; omega
    by_cases hlt : k < n
    · obtain ⟨b, off, o, he, hb, ho, c0, c1, c2⟩ := (hr.below hbw).op (k := k) hlt
      cases he
      have h6 := mem_six.1 (HSIX.out o (List.mem_of_getElem? ho))
      have HUT := Lib.hid (updM_take ho)
      obtain ⟨tx, what, item⟩ := o
      simp only at c0 c1 c2 h6
      obtain ⟨t, rfl⟩ : ∃ t : Nat, tx = t := ⟨tx.toNat, by omega⟩
      have ht7 : t < 7 := by omega
      have ht0 : (0 : Int) ≤ (t : Int) := by omega
      have ht7i : (t : Int) < 7 := by omega
      have hrow := hR.row t (by omega) (by omega)
      obtain ⟨A5, c5, hV⟩ := own_slice hrow
      obtain ⟨nt, hnt⟩ : ∃ nt, (ownL (h.take k) (t : Int)).length = nt := ⟨_, rfl⟩
      rw [hnt] at hrow hV
      have hnt40 : nt ≤ 40 := by
        rw [← hnt]
        have h1 := List.length_filter_le (fun o : HOp => decide (o.tx = (t : Int))) (h.take k)
        have h2 := List.length_take_le k h
        unfold ownL
        omega
      have HV := Lib.hid hV
      have HNT := Lib.hid hnt
      rw [hV] at hrow
      have hbw8 : Below wr.heap.size wr (wr.alloc (.cells #[.int .i64 (t : Int), .int .i64 what, .int .i64 item] 54)) := (Below.refl _ _).alloc (Nat.le_refl _) _
      have hB8 := Blk.new wr 54 [.int .i64 (t : Int), .int .i64 what, .int .i64 item]
      have hgrl : gr < wr.heap.size := hR.blk.lt
      have HR := Lib.hid hR
      have HC := Lib.hid hc
      clear ho hV hnt hR hc h6
      go_wp2_with fail
      have hS8 : (wr.alloc (.cells #[.int .i64 (t : Int), .int .i64 what, .int .i64 item] 54)).drew.cell? ⟨gr, t, none⟩ = some (.slice A5 nt c5) := by
        have h := ((HR.out.blk.alloc (.cells #[.int .i64 (t : Int), .int .i64 what, .int .i64 item] 54)).drew).cellS (rowsV_get V t ht7)
        rw [HV.out] at h; exact h
      have hS9 : Blk (wr.alloc (.cells #[.int .i64 (t : Int), .int .i64 what, .int .i64 item] 54)).drew wr.heap.size 54 [.int .i64 (t : Int), .int .i64 what, .int .i64 item] := hB8.drew
      have h9 : ∀ u ∈ cellsH [⟨(t : Int), what, item⟩], u.oneCell' = true := oneH _
      refine wp_region_noPanic ?_
      refine wp_region_till (fun w' => w'.cell? ⟨gr, t, none⟩ = some (.slice A5 nt c5) ∧ Blk w' wr.heap.size 54 [.int .i64 (t : Int), .int .i64 what, .int .i64 item]) 10 (by kernel_rfl) ⟨hS8, hS9⟩ (fun hS0 => ?_)
      refine wpTill_take 0 [9, 1, 0] (v := .pointer (some ⟨wr.heap.size, 0, none⟩)) rfl (by kernel_rfl) (by kernel_rfl) (by kernel_rfl) (by kernel_rfl) (by kernel_rfl) (by kernel_rfl) (fun _ _ _ h => h) hS0 (by rfl) (fun w1 hS1 => by obtain ⟨s1, s2⟩ := hS1; have y0 := s2.cellS (i := 0) (v := .int .i64 (t : Int)) rfl; have y1 := s2.cellS (i := 1) (v := .int .i64 what) rfl; have y2 := s2.cellS (i := 2) (v := .int .i64 item) rfl; have y3 := s1; clear s1 s2; go_simp) ?_
      simp only [Act.put]
      refine wpTill_take 1 [9, 1] (v := .int .i64 (t : Int)) rfl (by kernel_rfl) (by kernel_rfl) (by kernel_rfl) (by kernel_rfl) (by kernel_rfl) (by kernel_rfl) (fun _ _ _ h => h) hS0 (by rfl) (fun w1 hS1 => by obtain ⟨s1, s2⟩ := hS1; have y0 := s2.cellS (i := 0) (v := .int .i64 (t : Int)) rfl; have y1 := s2.cellS (i := 1) (v := .int .i64 what) rfl; have y2 := s2.cellS (i := 2) (v := .int .i64 item) rfl; have y3 := s1; clear s1 s2; go_simp) ?_
      simp only [Act.put]
      refine wpTill_take 2 [8, 5, 4, 3, 2] (v := .pointer (some ⟨wr.heap.size, 0, none⟩)) rfl (by kernel_rfl) (by kernel_rfl) (by kernel_rfl) (by kernel_rfl) (by kernel_rfl) (by kernel_rfl) (fun _ _ _ h => h) hS0 (by rfl) (fun w1 hS1 => by obtain ⟨s1, s2⟩ := hS1; have y0 := s2.cellS (i := 0) (v := .int .i64 (t : Int)) rfl; have y1 := s2.cellS (i := 1) (v := .int .i64 what) rfl; have y2 := s2.cellS (i := 2) (v := .int .i64 item) rfl; have y3 := s1; clear s1 s2; go_simp) ?_
      simp only [Act.put]
      refine wpTill_take 3 [8, 5, 4, 3] (v := .int .i64 (t : Int)) rfl (by kernel_rfl) (by kernel_rfl) (by kernel_rfl) (by kernel_rfl) (by kernel_rfl) (by kernel_rfl) (fun _ _ _ h => h) hS0 (by rfl) (fun w1 hS1 => by obtain ⟨s1, s2⟩ := hS1; have y0 := s2.cellS (i := 0) (v := .int .i64 (t : Int)) rfl; have y1 := s2.cellS (i := 1) (v := .int .i64 what) rfl; have y2 := s2.cellS (i := 2) (v := .int .i64 item) rfl; have y3 := s1; clear s1 s2; go_simp) ?_
      simp only [Act.put]
      refine wpTill_take 4 [8, 5, 4] (v := .pointer (some ⟨gr, t, none⟩)) rfl (by kernel_rfl) (by kernel_rfl) (by kernel_rfl) (by kernel_rfl) (by kernel_rfl) (by kernel_rfl) (fun _ _ _ h => h) hS0 (by rfl) (fun w1 hS1 => by obtain ⟨s1, s2⟩ := hS1; have y0 := s2.cellS (i := 0) (v := .int .i64 (t : Int)) rfl; have y1 := s2.cellS (i := 1) (v := .int .i64 what) rfl; have y2 := s2.cellS (i := 2) (v := .int .i64 item) rfl; have y3 := s1; clear s1 s2; go_simp) ?_
      simp only [Act.put]
      refine wpTill_take 5 [8, 5] (v := .slice A5 nt c5) rfl (by kernel_rfl) (by kernel_rfl) (by kernel_rfl) (by kernel_rfl) (by kernel_rfl) (by kernel_rfl) (fun _ _ _ h => h) hS0 (by rfl) (fun w1 hS1 => by obtain ⟨s1, s2⟩ := hS1; have y0 := s2.cellS (i := 0) (v := .int .i64 (t : Int)) rfl; have y1 := s2.cellS (i := 1) (v := .int .i64 what) rfl; have y2 := s2.cellS (i := 2) (v := .int .i64 item) rfl; have y3 := s1; clear s1 s2; go_simp) ?_
      simp only [Act.put]
      refine wpTill_take 6 [8, 7, 6] (v := .agg #[.int .i64 (t : Int), .int .i64 what, .int .i64 item]) rfl (by kernel_rfl) (by kernel_rfl) (by kernel_rfl) (by kernel_rfl) (by kernel_rfl) (by kernel_rfl) (fun _ _ _ h => h) hS0 (by rfl) (fun w1 hS1 => by obtain ⟨s1, s2⟩ := hS1; have y0 := s2.cellS (i := 0) (v := .int .i64 (t : Int)) rfl; have y1 := s2.cellS (i := 1) (v := .int .i64 what) rfl; have y2 := s2.cellS (i := 2) (v := .int .i64 item) rfl; have y3 := s1; clear s1 s2; go_simp) ?_
      simp only [Act.put]
      have hHA : RowsM ((wr.alloc (.cells #[.int .i64 (t : Int), .int .i64 what, .int .i64 item] 54)).alloc (.cells (cellsH [⟨(t : Int), what, item⟩]).toArray 54)).drew (gr + 1) gr V (fun t => ownL (h.take k) t) := HR.out.below (((Below.refl wr.heap.size wr).alloc (Nat.le_refl _) _).alloc (by simp) _).drew
      have hrowA := hHA.row t (by omega) (by omega)
      rw [HNT.out, HV.out] at hrowA
      have HHA := Lib.hid hHA
      have hBA := (hB8.alloc (.cells (cellsH [⟨(t : Int), what, item⟩]).toArray 54)).drew
      have hCA : (( wr.alloc (.cells #[.int .i64 (t : Int), .int .i64 what, .int .i64 item] 54)).alloc (.cells (cellsH [⟨(t : Int), what, item⟩]).toArray 54)).drew.cell? ⟨gr, t, none⟩ = some (.slice A5 nt c5) := by
        have h := hHA.blk.cellS (rowsV_get V t ht7)
        rw [HV.out] at h; exact h
      clear hHA
      refine wpTill_one 7 rfl (by kernel_rfl) (fun K hK => ?_)
      have HK := Lib.hid hK
      clear hK
      go_simp
      refine HK.out _ _ (fun _ => ⟨hCA, hBA⟩) ?_
      clear HK K
      refine wpTill_one 8 rfl (by kernel_rfl) (fun K hK => ?_)
      have HK := Lib.hid hK
      clear hK
      refine step_app2 rfl (.tmp 19) (.tmp 21) _ rfl (gr + 1) slt_op (v := .slice A5 nt c5) (n := nt) (xs := cellsH (ownL (h.take k) (t : Int))) (m := 1) (news := cellsH [⟨(t : Int), what, item⟩]) rfl hrowA rfl (rd_new' _ _ (cellsH [⟨(t : Int), what, item⟩]) (by simp) rfl) h9 (by omega) (by simp; omega) ?_
      intro v6 w6 hown6 hg6 hat6
      obtain ⟨A6, c6, rfl⟩ := own_slice hown6
      have hr6 : Blk w6 gr 108 (rowsV V) := HHA.out.blk.grown hg6 (fun j hj e => by have := (hrowA.lt j hj).1; omega)
      have hb6 := hBA.grown hg6 (fun j hj e => by
        have h3 := ((HR.out.row t (by omega) (by omega)).lt j (by rw [HV.out]; exact hj)).2
        omega)
      have hC6 : w6.cell? ⟨gr, t, none⟩ = some (.slice A5 nt c5) := by
        have h := hr6.cellS (rowsV_get V t ht7)
        rw [HV.out] at h; exact h
      have hF6 := hr6.frozen t
      refine HK.out _ _ (fun _ => ⟨hC6, hb6⟩) ?_
      clear HK K
      simp only [Act.put]
      refine wpTill_one 9 rfl (by kernel_rfl) (fun K hK => ?_)
      have HK := Lib.hid hK
      clear hK
      go_simp
      refine HK.out _ _ (fun _ => ⟨hC6, hb6⟩) ?_
      clear HK K
      refine wpTill_one 10 rfl (by kernel_rfl) (fun K hK => ?_)
      have HK := Lib.hid hK
      clear hK
      go_simp
      refine HK.out _ _ (fun h => absurd rfl h) ?_
      clear HK K
      refine wpTill_done (by kernel_rfl) (NoPanic.normal ?_) _
      have hR9 := HHA.out.put ht7 (o := ⟨(t : Int), what, item⟩) (by rw [HNT.out]; exact hown6) (by rw [HV.out]; exact hg6) (by rw [HV.out]; exact hat6)
      rw [HUT.out] at hR9
      have hc9 : Chg (fun j => j = gr) w3 (w6.setCell ⟨gr, t, none⟩ (.slice A6 (nt + 1) c6)) := (((HC.out.alloc (.cells #[.int .i64 (t : Int), .int .i64 what, .int .i64 item] 54)).alloc (.cells (cellsH [⟨(t : Int), what, item⟩]).toArray 54)).drew.grown hg6 (fun j hj => .inr (by have := (hrowA.lt j hj).1; have := HZ.out; omega))).set (p := ⟨gr, t, none⟩) (.inl rfl) _
      clear hr6 hb6 hC6 hF6 hown6 hg6 hat6 hS0 hrowA hBA hCA
      go_wp2
      go_roundw
      case rel => exact ⟨k + 1, _, by omega, by go_num, hR9, hc9⟩
      case measure => simp [intOf]; omega
    · have hfull : h.take k = h := List.take_of_length_le (by rw [HL.out]; omega)
      rw [hfull] at hR
      have hchg := hc
      have hgh2 := HB0.out.1.chg hc (fun e => by have := HZ.out; omega)
      have hgs2 := HB0.out.2.1.chg hc (fun e => by have := HZ.out; omega)
      have hJ2 := (HSS.out gr (by have := HZ.out; omega)).keepJ _ _ wr (HJ.out gr (by have := HZ.out; omega)) (by
        have hb := HB0.out.2.2
        exact ⟨hc.os.trans hb.os, hc.tape.trans hb.tape, hc.output.trans hb.output, Nat.le_trans hb.size hc.size, fun j hj hne => (hc.block j (Nat.lt_of_lt_of_le hj hb.size) hne).trans (hb.block j hj)⟩)
      have hgk := Blk.new wr 55 [.func (.func 52) #[] #[.pointer (some ⟨gh, 0, none⟩), .pointer (some ⟨gs, 0, none⟩), .pointer (some ⟨gr, 0, none⟩), .pointer (some ⟨wr.heap.size, 0, none⟩)]]
      have hSx : ∀ j, w.heap.size ≤ j → ¬ S j := fun j hj e => by have := HSL.out j e; omega
      have hI : WkI (gr + 1) gh gs gr wr.heap.size F caps S A n c V (fun t => ownL h t) (wr.alloc (.cells #[.func (.func 52) #[] #[.pointer (some ⟨gh, 0, none⟩), .pointer (some ⟨gs, 0, none⟩), .pointer (some ⟨gr, 0, none⟩), .pointer (some ⟨wr.heap.size, 0, none⟩)]] 55)) := by
        have hz := HZ.out
        exact ⟨hgh2.alloc _, hgs2.alloc _, hR.blk.alloc _, hgk, fun t h0 h6 => QRow.of_own (own_alloc (hR.row t h0 h6) _) rfl, fun t h0 h6 j hj => by
          have := ((hR.row t h0 h6).lt j hj).1
          exact ⟨by omega, hSx j (by omega)⟩, ⟨by omega, hSx gh (by omega)⟩, ⟨by omega, hSx gs (by omega)⟩, ⟨by omega, hSx _ (by omega)⟩, hSx gr (by omega), fun j hj => by have := HSL.out j hj; simp; omega⟩
      have hJ3 := (HSS.out gr (by have := HZ.out; omega)).keepJ _ _ (wr.alloc (.cells #[.func (.func 52) #[] #[.pointer (some ⟨gh, 0, none⟩), .pointer (some ⟨gs, 0, none⟩), .pointer (some ⟨gr, 0, none⟩), .pointer (some ⟨wr.heap.size, 0, none⟩)]] 55)) hJ2 ((Chg.refl _ _).alloc _)
      have CW := hide (mwalk_any (HSS.out gr (by have := HZ.out; omega)) (Ah := A) (len := n) (ch := c) (lo := gr + 1) (gh := gh) (gs := gs) (gk := wr.heap.size) hm h.length (fun t => ownL h t) V [] none 0 0 _ [] (by
        unfold ownL
        rw [List.filter_eq_nil_iff]
        intro o ho
        have := mem_six.1 (HSIX.out o ho)
        simp; omega) (tot_own h HSIX.out) rfl (by rw [HL.out]; omega) (Nat.le_refl _) (fun _ => rfl) (fun W' _ => ⟨rfl, fun h => absurd h (Nat.lt_irrefl 0)⟩) (by rw [List.nil_append]; exact List.prefix_refl _) hI hJ3)
      have HCB : Hid (∀ W', Chg (fun j => j = gr ∨ S j) (wr.alloc (.cells #[.func (.func 52) #[] #[.pointer (some ⟨gh, 0, none⟩), .pointer (some ⟨gs, 0, none⟩), .pointer (some ⟨gr, 0, none⟩), .pointer (some ⟨wr.heap.size, 0, none⟩)]] 55)) W' → Chg S w W') := Lib.hid (fun W' hc' => by
        have hz := HZ.out
        have hb := HB0.out.2.2
        have h1 := hc.alloc (.cells #[.func (.func 52) #[] #[.pointer (some ⟨gh, 0, none⟩), .pointer (some ⟨gs, 0, none⟩), .pointer (some ⟨gr, 0, none⟩), .pointer (some ⟨wr.heap.size, 0, none⟩)]] 55)
        refine ⟨hc'.os.trans (h1.os.trans hb.os), hc'.tape.trans (h1.tape.trans hb.tape), hc'.output.trans (h1.output.trans hb.output), Nat.le_trans hb.size (Nat.le_trans h1.size hc'.size), fun j hj hne => ?_⟩
        have e1 := hb.block j hj
        have e2 := h1.block j (Nat.lt_of_lt_of_le hj hb.size) (by omega)
        have e3 := hc'.block j (Nat.lt_of_lt_of_le hj (Nat.le_trans hb.size h1.size)) (fun e => e.elim (by omega) hne)
        exact e3.trans (e2.trans e1))
      clear hc hfull hI hJ3 hJ2 hgk hgh2 hgs2 hR hchg
      go_wp2_with fail
      refine (unhide CW).mono ?_
      rintro e W' ⟨hc', _, h8⟩
      have hcF := HCB.out W' hc'
      rcases h8 with ⟨rfl, h8⟩ | ⟨rfl, p, q, hpq, hp, h8⟩
      · go_wp2
        go_end0
        exact ⟨⟨_, rfl⟩, hcF, gr, .inl h8⟩
      · have HP := Lib.hid (And.intro hpq hp)
        clear hpq hp
        go_wp2
        go_end0
        exact ⟨⟨_, rfl⟩, hcF, gr, .inr ⟨p, q, HP.out.1, HP.out.2, h8⟩⟩
end Go.Proofs.YtmehghkpghbpjaaGreat


namespace Go.Proofs.YtmehghkpghbpjaaGreat
open Go.RowKit

def mixE (h : List HOp) : Int := if (checkF h).2 ≠ 0 then (checkF h).2 else if 8 < h.length then 4 else 0
theorem mixE_ok {h : List HOp} (hk : okH h) (h8 : h.length ≤ 8) : mixE h = 0 := by
  unfold mixE
  rw [if_neg (fun e => e hk), if_neg (by omega)]
theorem mixE_zero {h : List HOp} (he : mixE h = 0) : okH h ∧ h.length ≤ 8 := by
  unfold mixE at he
  split at he
  · rename_i h1; exact absurd he h1
  · rename_i h1
    split at he
    · cases he
    · exact ⟨by unfold okH; omega, by omega⟩
set_option maxHeartbeats 1000000 in
theorem ready_any (A : Option Addr) (n cap : Nat) (h : List HOp) (w : World) (hr : Rd w w.heap.size 3 A n (cellsH h)) (hm : n ≤ 6000000000000) :
    Calls Tryz.prog 22 #[.slice A n cap] w fun e w' => e = .returned (errV (mixE h)) ∧ Below w.heap.size w w' := by
  have C := hide (right_h A n cap h w hr hm)
  have hl := hr.hlen
  by_cases hk : (checkF h).2 = 0
  · have e1 : errV (checkF h).2 = .nilIface := by rw [hk, errV_zero]
    rw [e1] at C
    by_cases h8 : 8 < n
    · have e2 : errV (mixE h) = .iface 57 (.int .i64 4) := by
        unfold mixE
        rw [if_neg (fun e => e hk), if_pos (by omega)]; rfl
      rw [e2]
      clear hr hl hk e1 e2
      go_enter Tryz.func22, Tryz.ntmps22
      go_wp2_with fail
      refine (unhide C).mono ?_
      rintro e w1 ⟨rfl, hb1⟩
      go_wp2
      go_ret
      exact ⟨rfl, hb1⟩
    · have e2 : errV (mixE h) = .nilIface := by rw [mixE_ok hk (by omega)]; rfl
      rw [e2]
      clear hr hl hk e1 e2
      go_enter Tryz.func22, Tryz.ntmps22
      go_wp2_with fail
      refine (unhide C).mono ?_
      rintro e w1 ⟨rfl, hb1⟩
      go_wp2
      go_ret
      exact ⟨rfl, hb1⟩
  · have e2 : mixE h = (checkF h).2 := by unfold mixE; rw [if_pos hk]
    rw [e2]
    rw [ne_errV hk] at C ⊢
    generalize (checkF h).2 = ev at *
    clear hr hl hk e2
    go_enter Tryz.func22, Tryz.ntmps22
    go_wp2_with fail
    refine (unhide C).mono ?_
    rintro e w1 ⟨rfl, hb1⟩
    go_wp2
    go_ret
    exact ⟨rfl, hb1⟩

theorem blk_set_chg {w : World} {g : Nat} {t : TypeId} {cs : List Value} (h : Blk w g t cs) (i : Nat) (u : Value) : Chg (fun k => k = g) w (w.setCell ⟨g, i, none⟩ u) ∧ Blk (w.setCell ⟨g, i, none⟩ u) g t (cs.set i u) := ⟨(Chg.refl (fun k => k = g) w).set (p := ⟨g, i, none⟩) (.inl rfl) u, h.put i u⟩
def cntJ (g : Nat) (f : List (List HOp) → Nat) : List (List HOp) → World → Prop := fun pre W => Blk W g 3 [.int .i64 (f pre : Int)]

end Go.Proofs.YtmehghkpghbpjaaGreat
