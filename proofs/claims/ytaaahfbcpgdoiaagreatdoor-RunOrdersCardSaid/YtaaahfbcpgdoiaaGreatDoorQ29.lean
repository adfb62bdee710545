
/-
  CONTRACT of view.Reads.
  CONTRACT of view.sources: of each deal's reads which write each read, a row a deal.
-/
import Derived.Test.YtaaahfbcpgdoiaaGreatDoorQ9
import Derived.Test.YtaaahfbcpgdoiaaGreatDoorMapR
import Derived.Test.YtaaahfbcpgdoiaaGreatDoorQ27
import Derived.Test.YtaaahfbcpgdoiaaGreatDoorQ20
import Derived.Deep.RegionHeld3
import Derived.Test.YtaaahfbcpgdoiaaGreatDoorSink

namespace Go.Proofs.YtaaahfbcpgdoiaaGreatDoor
open Go.RowKit

theorem doneL_len2 (h : List HOp) : (doneL h).length ≤ h.length := by
  have := List.length_filter_le (fun o : HOp => (flagsF h).getD o.tx.toNat false) h
  unfold doneL; omega

/-! ### view.Reads. -/
def rdsL (h : List HOp) : List (Int × Int) := if (checkF h).2 = 0 then (lookF (doneL h)).1 else []
end Go.Proofs.YtaaahfbcpgdoiaaGreatDoor


namespace Go.Proofs.YtaaahfbcpgdoiaaGreatDoor
open Go.RowKit

theorem slt_source : SlT Tryz.prog 185 189 2 16 := slt_of (z := .agg #[.int .i64 0, .int .i64 0]) Tryz.underlying185 (by kernel_rfl) (by kernel_rfl) (by decide) (by decide)
/-- Seven rows, in a slice of slices that lies in block g; each row is the call's own, no two in one block. -/
structure RowsOk (w : World) (base g : Nat) (vs : List Value) (f : Int → List (Int × Int)) : Prop where
  blk : Blk w g 185 vs
  len : vs.length = 7
  row : ∀ t : Nat, t < 7 → ∃ v, vs[t]? = some v ∧ w.ownsRow base 189 2 v (f t).length (dcells (f t))
  far : ∀ (i j k : Nat) (u v : Value), i ≠ j → vs[i]? = some u → vs[j]? = some v → u.ownBlock = some k → v.ownBlock ≠ some k
  low : g < base
section
variable {w w' : World} {base g : Nat} {vs : List Value} {f : Int → List (Int × Int)}
theorem RowsOk.alloc (h : RowsOk w base g vs f) (o : Obj) : RowsOk (w.alloc o) base g vs f :=
  ⟨h.blk.alloc o, h.len, fun t ht => by obtain ⟨v, h1, h2⟩ := h.row t ht; exact ⟨v, h1, own_alloc h2 o⟩, h.far, h.low⟩
theorem RowsOk.drew (h : RowsOk w base g vs f) : RowsOk w.drew base g vs f := ⟨h.blk, h.len, h.row, h.far, h.low⟩
/-- A block that lies ahead of the rows is written. -/
theorem RowsOk.other (h : RowsOk w base g vs f) {k : Nat} (hg : w.grownBy w' (some k)) (hk : k < base) (hne : g ≠ k) : RowsOk w' base g vs f :=
  ⟨h.blk.grown hg (fun j hj => by injection hj with hj; rw [← hj]; exact hne), h.len, fun t ht => by obtain ⟨v, h1, h2⟩ := h.row t ht; exact ⟨v, h1, ownBut h2 hg hk⟩, h.far, h.low⟩
/-- One row has grown, and its new value is stored. -/
theorem RowsOk.put (h : RowsOk w base g vs f) {t : Nat} (ht : t < 7) {v v5 : Value} (hv : vs[t]? = some v) (hg : w.grownBy w' v.ownBlock) {l : List (Int × Int)} (hown : w'.ownsRow base 189 2 v5 l.length (dcells l))
    (hat : v5.ownBlock = v.ownBlock ∨ v5.ownBlock = some w.heap.size) : RowsOk (w'.setCell ⟨g, t, none⟩ v5) base g (vs.set t v5) (upd f t l) := by
  have hgb : v.ownBlock ≠ some g := by
    obtain ⟨v', h1, h2⟩ := h.row t ht
    rw [hv] at h1
    cases h1
    intro e
    have := (h2.lt g e).1
    have := h.low
    omega
  refine ⟨(h.blk.grown hg (fun j hj e => hgb (by rw [hj, e]))).put t v5, by simp [h.len], fun i hi => ?_, fun i j k u z hij hu hz hk => ?_, h.low⟩
  · by_cases e : i = t
    · subst e
      refine ⟨v5, by rw [List.getElem?_set, if_pos rfl, if_pos (by rw [h.len]; exact hi)], ?_⟩
      rw [upd_same]
      exact own_far hown h.low v5
    · obtain ⟨z, h1, h2⟩ := h.row i hi
      refine ⟨z, by rw [List.getElem?_set_ne (fun e' => e e'.symm)]; exact h1, ?_⟩
      rw [upd_other _ (by omega)]
      refine own_far (h2.kept hg ?_) h.low v5
      cases hz : z.ownBlock with
      | none => exact .inl rfl
      | some k =>
        right
        intro e'
        exact h.far i t k z v e h1 hv hz e'.symm
  · have hlt : ∀ (i k : Nat) (u : Value), i < 7 → vs[i]? = some u → u.ownBlock = some k → k < w.heap.size := fun i k u hi hu hk => by
      obtain ⟨z, h1, h2⟩ := h.row i hi
      rw [hu] at h1
      cases h1
      exact (h2.lt k hk).2
    have hin : ∀ (i : Nat) (u : Value), vs[i]? = some u → i < 7 := fun i u hu => by
      have := (List.getElem?_eq_some_iff.1 hu).1
      rw [h.len] at this
      exact this
    rw [List.getElem?_set] at hu hz
    split at hu
    · rename_i e
      subst e
      rw [if_neg (fun e => hij e)] at hz
      rw [if_pos (by rw [h.len]; exact ht)] at hu
      cases hu
      rcases hat with e1 | e1
      · rw [e1] at hk
        exact h.far t j k v z hij hv hz hk
      · rw [e1] at hk
        injection hk with hk
        intro e2
        have := hlt j k z (hin j z hz) hz e2
        omega
    · rename_i e
      split at hz
      · rename_i e'
        subst e'
        rw [if_pos (by rw [h.len]; exact ht)] at hz
        cases hz
        rcases hat with e1 | e1
        · rw [e1]
          exact h.far i t k u v hij hu hv hk
        · rw [e1]
          intro e2
          injection e2 with e2
          have := hlt i k u (hin i u hu) hu hk
          omega
      · exact h.far i j k u z hij hu hz hk
end
/-- A map that tells of each item which write was last. -/
def sVal (p : Int × Int) : Value := .agg #[.int .i64 p.1, .int .i64 p.2]
def Tells (m : List (Int × Value)) (f : Int → Int × Int) : Prop := ∀ x, (getI m x).getD (.agg #[.int .i64 0, .int .i64 0]) = sVal (f x)
theorem Tells.nil : Tells [] (fun _ => (0, 0)) := fun _ => rfl
theorem Tells.put {m : List (Int × Value)} {f : Int → Int × Int} (h : Tells m f) (k : Int) (p : Int × Int) : Tells (putI m k (sVal p)) (upd f k p) := by
  intro x
  rw [getI_putI]
  by_cases hx : x = k
  · rw [if_pos hx, hx, upd_same]; rfl
  · rw [if_neg hx, upd_other _ hx]; exact h x
theorem step_app3 {P : Program} {w : World} {ops : Array Oper} {o : Oper} {a : Act} {K : Act → World → Prop} {Q : Exit → Act → World → Prop} {E : Prop} (hgd : o.guard = none) (s x : Operand) (t : TypeId)
    (ho : o.op = .call { callee := .builtin .append, args := #[s, x], argTypes := #[t, t] })
    {e : TypeId} {size bytes : Nat} (base : Nat) (T : SlT P t e size bytes) {v : Value} {n : Nat} {xs : List Value} (hs : a.eval s = v) (hown : w.ownsRow base e size v n xs)
    {B : Nat} {A : Option Addr} {m c : Nat} {news : List Value} (hx : a.eval x = .slice A m c) (hr : Rd w B size A m news) (h1 : ∀ u ∈ news, u.oneCell' = true) (hbytes : (n + m) * bytes ≤ 140737488355328) (hbase : base ≤ w.heap.size)
    (h : ∀ v' w', w'.ownsRow base e size v' (n + m) (xs ++ news) → w.grownBy w' v.ownBlock → Below base w w' → (v'.ownBlock = v.ownBlock ∨ v'.ownBlock = some w.heap.size) → K (a.put o.dst v') w') :
    if Region.wanted o (yielded ops a.tmps) = true then Oper.wp P o a w K Q else E := by
  rw [if_pos (by simp [Region.wanted, hgd])]
  exact wp_app s x t ho base T hs hown hx hr h1 hbytes hbase fun v' w' h2 h3 h4 h5 _ => h v' w' h2 h3 h4 h5
theorem make7 (w : World) : (Instr.makeSlice 184 (.int .i64 7) (.int .i64 7)).run Tryz.prog w = .ok (.slice (some ⟨w.heap.size, 0, none⟩) 7 7) (w.alloc (.cells (List.replicate 7 (Value.slice none 0 0)).toArray 185)) := by kernel_rfl

theorem many_cnt2 (h : List HOp) (t : Int) : (srcF h).many t = cntT h t := by
  have key : ∀ (r p : List HOp), (∀ t, (srcF p).many t = cntT p t) → ∀ t, (srcF (p ++ r)).many t = cntT (p ++ r) t := by
    intro r
    induction r with
    | nil => intro p h t; simpa using h t
    | cons o r ih =>
      intro p h t
      have := ih (p ++ [o]) (fun t => by
        rw [srcF_snoc, cntT_snoc]
        have hm : (stepS (srcF p) o).many = upd (srcF p).many o.tx ((srcF p).many o.tx + 1) := by
          unfold stepS
          split
          · rfl
          · split <;> rfl
        rw [hm]
        by_cases e : t = o.tx
        · subst e; rw [upd_same, if_pos rfl, h]; omega
        · rw [upd_other _ e, if_neg (fun e' => e e'.symm), h]; omega) t
      simpa using this
  exact key h [] (fun t => rfl) t
theorem out_le (h : List HOp) (t : Int) : ((srcF h).out t).length ≤ h.length := by
  have key : ∀ (r : List HOp) (s : VS) (m : Nat), (s.out t).length ≤ m → ((r.foldl stepS s).out t).length ≤ m + r.length := by
    intro r
    induction r with
    | nil => intro s m h; simpa using h
    | cons o r ih =>
      intro s m h
      rw [List.foldl_cons, List.length_cons]
      have := ih (stepS s o) (m + 1) (by
        unfold stepS
        split
        · by_cases e : t = o.tx
          · subst e; simp only [upd_same, List.length_append, List.length_singleton]; omega
          · simp only [upd_other _ e]; omega
        · split <;> (simp only; omega))
      omega
  have := key h vs0 0 (Nat.le_refl _)
  unfold srcF
  omega

set_option maxRecDepth 100000 in
set_option maxHeartbeats 4000000 in
theorem vsources_any (A : Option Addr) (n cap : Nat) (h : List HOp) (w : World) (hr : Rd w w.heap.size 3 A n (cellsH h)) (hm : n ≤ 40) (ht : ∀ o ∈ h, rightB o = true) :
    Calls Tryz.prog 101 #[.slice A n cap] w fun e w' => ∃ vs, e = .returned (.slice (some ⟨w.heap.size, 0, none⟩) 7 7) ∧ RowsOk w' (w.heap.size + 3) w.heap.size vs (srcF h).out ∧ Below w.heap.size w w' := by
  have HL := Lib.hid hr.hlen
  have HR := Lib.hid ht
  have HT := Lib.hid (And.intro (show Tryz.prog.underlying 247 = some (.map 3 3) by kernel_rfl) (And.intro (show Tryz.prog.underlying 3 = some (.int .i64) by kernel_rfl) (show ∀ w, (zeroValue 3).run Tryz.prog w = .ok (.int .i64 0) w from fun w => by kernel_rfl)))
  have HT2 := Lib.hid (And.intro (show Tryz.prog.underlying 246 = some (.map 3 189) by kernel_rfl) (show ∀ w, (zeroValue 189).run Tryz.prog w = .ok (.agg #[.int .i64 0, .int .i64 0]) w from fun w => by kernel_rfl))
  have hmm := @run_makeMap Tryz.prog
  have hmk := make7
  clear ht
  have hB0 := Blk.new w 185 (List.replicate 7 (Value.slice none 0 0))
  go_enter Tryz.func101, Tryz.ntmps101
  go_wp2
  clear hmm hmk
  go_loopw [13] (fun s13 wr => ∃ (k : Nat) (ml mm : List (Int × Value)) (vs : List Value), k ≤ n ∧ s13 = .int .i64 k ∧ MapI wr (w.heap.size + 1) ml ∧ MapI wr (w.heap.size + 2) mm ∧ Hid (Tells ml (srcF (h.take k)).last) ∧ Hid (Counts mm (cntT (h.take k))) ∧
      RowsOk wr (w.heap.size + 3) w.heap.size vs (srcF (h.take k)).out ∧ w.heap.size + 3 ≤ wr.heap.size ∧ Below w.heap.size w wr) (fun s13 _ => n - (intOf s13).toNat)
  case atStart =>
    refine ⟨0, [], [], List.replicate 7 (Value.slice none 0 0), Nat.zero_le _, rfl, ?_, ?_, Lib.hid Tells.nil, Lib.hid Counts.nil, ?_, by simp, ?_⟩
    · have := (MapI.new (w.alloc (.cells (List.replicate 7 (Value.slice none 0 0)).toArray 185))).alloc (.map #[] 0)
      simpa using this
    · have := MapI.new ((w.alloc (.cells (List.replicate 7 (Value.slice none 0 0)).toArray 185)).alloc (.map #[] 0))
      simpa using this
    · refine ⟨(hB0.alloc _).alloc _, rfl, fun t ht => ⟨.slice none 0 0, by rw [List.getElem?_replicate, if_pos ht], World.ownsRow_nil _ _ _ _⟩, fun i j k u z hij hu hz hk => ?_, by omega⟩
      rw [List.getElem?_replicate] at hu
      split at hu
      · cases hu; cases hk
      · cases hu
    · exact (((Below.refl _ _).alloc (Nat.le_refl _) _).alloc (by simp) _).alloc (by simp; omega) _
  case round =>
    clear hB0
    obtain ⟨k, ml, mm, vs, hk, rfl, hML, hMM, HTl, HC, hRO, hz, hbw⟩ := hrel
    by_cases hlt : k < n
    · obtain ⟨b, off, o, he, hb, ho, c0, c1, c2⟩ := (hr.below hbw).op (k := k) (by omega)
      cases he
      have hro := rightB_get (HR.out o (List.mem_of_getElem? ho))
      have HS := Lib.hid (srcF_at ho)
      have HMC : Hid ((srcF (h.take k)).many o.tx = cntT (h.take k) o.tx) := Lib.hid (many_cnt2 _ _)
      have hle40 : cntT (h.take k) o.tx ≤ 40 := by
        have h1 : cntT (h.take k) o.tx ≤ (h.take k).length := List.countP_le_length
        rw [List.length_take] at h1; omega
      have hol : ((srcF (h.take k)).out o.tx).length ≤ 40 := Nat.le_trans (out_le _ _) (by rw [List.length_take]; omega)
      have HN := Lib.hid (cntT_next ho)
      have HC2 : Hid (Counts (putI mm o.tx (.int .i64 ((cntT (h.take k) o.tx + 1 : Nat) : Int))) (cntT (h.take (k + 1)))) := Lib.hid (HC.out.put (cntT_next ho) (fun t ht => by
        rw [takeSnoc ho, cntT_snoc, if_neg (fun e => ht e.symm)]; rfl))
      obtain ⟨tx, what, item⟩ := o
      simp only at c0 c1 c2 HS HN HC2 hle40 HMC hro hol
      obtain ⟨c, hc⟩ : ∃ c, cntT (h.take k) tx = c := ⟨_, rfl⟩
      have HCC := Lib.hid hc
      have HCN : Hid (cntT (h.take (k + 1)) tx = c + 1) := Lib.hid (by rw [HN.out, hc])
      rw [hc] at HC2 hle40 HMC
      generalize srcF (h.take k) = S0 at *
      clear HN hc ho
      have hOa := Blk.new wr 91 [.int .i64 tx, .int .i64 what, .int .i64 item]
      have hMMa := hMM.alloc (.cells #[.int .i64 tx, .int .i64 what, .int .i64 item] 91)
      have hMLa := hML.alloc (.cells #[.int .i64 tx, .int .i64 what, .int .i64 item] 91)
      have hROa := hRO.alloc (.cells #[.int .i64 tx, .int .i64 what, .int .i64 item] 91)
      have hbwa : Below w.heap.size w (wr.alloc (.cells #[.int .i64 tx, .int .i64 what, .int .i64 item] 91)) := hbw.alloc (by omega) _
      have hwr : wr.heap.size < (wr.alloc (.cells #[.int .i64 tx, .int .i64 what, .int .i64 item] 91)).heap.size := by simp
      by_cases hw1 : what = 1
      · subst hw1
        go_wp2_with (first
          | ((with_reducible show wpList _ _ _ _ _ _); (refine wpList_countI rfl (.tmp 17) (.tmp 19) _ rfl HT.out.1 HT.out.2.1 (b := w.heap.size + 2) (m := mm) (k := tx) (c := c) hMMa HC.out HCC.out HT.out.2.2 rfl rfl ?_))
          | ((with_reducible show wpList _ _ _ _ _ _); (refine wpList_updateI rfl (.tmp 17) (.tmp 19) (.tmp 21) _ rfl HT.out.1 HT.out.2.1 (b := w.heap.size + 2) (m := mm) (k := tx) (u := .int .i64 ((c + 1 : Nat) : Int)) hMMa rfl rfl (by go_num) ?_; intro w4 hM4 hg4; have hz4 := hg4.size; have hO4 := hOa.grown hg4 (fun k hk => by injection hk; omega); have e0 := hO4.cellS (i := 0) (v := .int .i64 tx) rfl; have e1 := hO4.cellS (i := 1) (v := .int .i64 1) rfl; have e2 := hO4.cellS (i := 2) (v := .int .i64 item) rfl)))
        have hnb : ∀ k, (vs[tx.toNat]?.getD (.slice none 0 0)).ownBlock = some k → k ≠ w.heap.size ∧ k ≠ wr.heap.size := fun k hk => by
          obtain ⟨v', h1, h2⟩ := hRO.row tx.toNat (by omega)
          rw [h1] at hk
          have := h2.lt k hk
          omega
        have hML4 := hMLa.grown hg4 (fun j hj => by injection hj; omega)
        have hRO4 := hROa.other hg4 (by omega) (by omega)
        have hbw4 := hbwa.trans (belowGrown hg4 (by omega) (by omega))
        have hz5 : wr.heap.size < w4.heap.size := by omega
        clear hMMa hMLa hROa hbwa hg4 hOa hMM hML hRO hbw hb c0 c1 c2
        obtain ⟨t, rfl⟩ : ∃ t : Nat, tx = t := ⟨tx.toNat, by omega⟩
        obtain ⟨v, hv, hown⟩ := hRO4.row t (by omega)
        obtain ⟨A5, c5, rfl⟩ := own_slice hown
        rw [Int.toNat_natCast, hv] at hnb
        simp only [Option.getD_some] at hnb
        have g0 := hRO4.blk.cellS hv
        have gf := hRO4.blk.frozen t
        have j0 : (0 : Int) ≤ (t : Int) := by omega
        have j1 : (t : Int) < 7 := by omega
        have hlkF : ∀ w' : World, MapI w' (w.heap.size + 1) ml → (Instr.lookup 246 (.map (some (w.heap.size + 1))) (.int .i64 item) false).run Tryz.prog w' = .ok (sVal (S0.last item)) w' := fun w' hm' => by
          have h1 := run_lookupI (P := Tryz.prog) HT2.out.1 HT.out.2.1 hm' item (HT2.out.2 _) false
          rw [if_neg (by simp), HTl.out item] at h1
          exact h1
        unfold sVal at hlkF
        have HS1 : Hid (srcF (h.take (k + 1)) = ⟨S0.last, upd S0.many (t : Int) (S0.many t + 1), upd S0.out (t : Int) (S0.out t ++ [S0.last item])⟩) := Lib.hid (by rw [HS.out]; rfl)
        generalize hpp : S0.last item = p at *
        obtain ⟨p1, p2⟩ := p
        simp only at hlkF
        have hz6 : w.heap.size + 3 ≤ w4.drew.heap.size := by show _ ≤ w4.heap.size; omega
        have q0 := (hRO4.blk.alloc (.cells #[.int .i64 p1, .int .i64 p2] 189)).drew
        have q1 := (hO4.alloc (.cells #[.int .i64 p1, .int .i64 p2] 189)).drew
        have hROx := (hRO4.alloc (.cells #[.int .i64 p1, .int .i64 p2] 189)).drew
        have hMLx := (hML4.alloc (.cells #[.int .i64 p1, .int .i64 p2] 189)).drew
        have hMMx := (hM4.alloc (.cells #[.int .i64 p1, .int .i64 p2] 189)).drew
        have hbwx := (hbw4.alloc (by omega) (.cells #[.int .i64 p1, .int .i64 p2] 189)).drew
        refine wp_region_noPanic ?_
        refine wp_region_till (fun w' => Blk w' w.heap.size 185 vs ∧ Blk w' wr.heap.size 91 [.int .i64 (t : Int), .int .i64 1, .int .i64 item] ∧ MapI w' (w.heap.size + 1) ml) 15 (by kernel_rfl) ⟨hRO4.blk, hO4, hML4.drew⟩ (fun hS0 => ?_)
        refine wpTill_take 0 [14, 0] (v := .slice (some ⟨w.heap.size, 0, none⟩) 7 7) rfl (by kernel_rfl) (by kernel_rfl) (by kernel_rfl) (by kernel_rfl) (by kernel_rfl) (by kernel_rfl) (fun _ _ _ h => h) hS0 (by rfl) (fun w1 hS1 => by obtain ⟨s1, s2, s3⟩ := hS1; have y0 := s1.cellS hv; have y1 := s2.cellS (i := 0) (v := .int .i64 (t : Int)) rfl; have y2 := s2.cellS (i := 2) (v := .int .i64 item) rfl; have y3 := hlkF w1 s3; clear s1 s2 s3; go_simp) ?_
        simp only [Act.put]
        refine wpTill_take 1 [14, 2, 1] (v := .pointer (some ⟨wr.heap.size, 0, none⟩)) rfl (by kernel_rfl) (by kernel_rfl) (by kernel_rfl) (by kernel_rfl) (by kernel_rfl) (by kernel_rfl) (fun _ _ _ h => h) hS0 (by rfl) (fun w1 hS1 => by obtain ⟨s1, s2, s3⟩ := hS1; have y0 := s1.cellS hv; have y1 := s2.cellS (i := 0) (v := .int .i64 (t : Int)) rfl; have y2 := s2.cellS (i := 2) (v := .int .i64 item) rfl; have y3 := hlkF w1 s3; clear s1 s2 s3; go_simp) ?_
        simp only [Act.put]
        refine wpTill_take 3 [13, 7, 6, 3] (v := .slice (some ⟨w.heap.size, 0, none⟩) 7 7) rfl (by kernel_rfl) (by kernel_rfl) (by kernel_rfl) (by kernel_rfl) (by kernel_rfl) (by kernel_rfl) (fun _ _ _ h => h) hS0 (by rfl) (fun w1 hS1 => by obtain ⟨s1, s2, s3⟩ := hS1; have y0 := s1.cellS hv; have y1 := s2.cellS (i := 0) (v := .int .i64 (t : Int)) rfl; have y2 := s2.cellS (i := 2) (v := .int .i64 item) rfl; have y3 := hlkF w1 s3; clear s1 s2 s3; go_simp) ?_
        simp only [Act.put]
        refine wpTill_take 4 [13, 7, 6, 5, 4] (v := .pointer (some ⟨wr.heap.size, 0, none⟩)) rfl (by kernel_rfl) (by kernel_rfl) (by kernel_rfl) (by kernel_rfl) (by kernel_rfl) (by kernel_rfl) (fun _ _ _ h => h) hS0 (by rfl) (fun w1 hS1 => by obtain ⟨s1, s2, s3⟩ := hS1; have y0 := s1.cellS hv; have y1 := s2.cellS (i := 0) (v := .int .i64 (t : Int)) rfl; have y2 := s2.cellS (i := 2) (v := .int .i64 item) rfl; have y3 := hlkF w1 s3; clear s1 s2 s3; go_simp) ?_
        simp only [Act.put]
        refine wpTill_take 8 [13, 12, 11, 8] (v := .map (some (w.heap.size + 1))) rfl (by kernel_rfl) (by kernel_rfl) (by kernel_rfl) (by kernel_rfl) (by kernel_rfl) (by kernel_rfl) (fun _ _ _ h => h) hS0 (by rfl) (fun w1 hS1 => by obtain ⟨s1, s2, s3⟩ := hS1; have y0 := s1.cellS hv; have y1 := s2.cellS (i := 0) (v := .int .i64 (t : Int)) rfl; have y2 := s2.cellS (i := 2) (v := .int .i64 item) rfl; have y3 := hlkF w1 s3; clear s1 s2 s3; go_simp) ?_
        simp only [Act.put]
        refine wpTill_take 9 [13, 12, 11, 10, 9] (v := .pointer (some ⟨wr.heap.size, 2, none⟩)) rfl (by kernel_rfl) (by kernel_rfl) (by kernel_rfl) (by kernel_rfl) (by kernel_rfl) (by kernel_rfl) (fun _ _ _ h => h) hS0 (by rfl) (fun w1 hS1 => by obtain ⟨s1, s2, s3⟩ := hS1; have y0 := s1.cellS hv; have y1 := s2.cellS (i := 0) (v := .int .i64 (t : Int)) rfl; have y2 := s2.cellS (i := 2) (v := .int .i64 item) rfl; have y3 := hlkF w1 s3; clear s1 s2 s3; go_simp) ?_
        simp only [Act.put]
        refine wpTill_take 2 [14, 2] (v := .int .i64 (t : Int)) rfl (by kernel_rfl) (by kernel_rfl) (by kernel_rfl) (by kernel_rfl) (by kernel_rfl) (by kernel_rfl) (fun _ _ _ h => h) hS0 (by rfl) (fun w1 hS1 => by obtain ⟨s1, s2, s3⟩ := hS1; have y0 := s1.cellS hv; have y1 := s2.cellS (i := 0) (v := .int .i64 (t : Int)) rfl; have y2 := s2.cellS (i := 2) (v := .int .i64 item) rfl; have y3 := hlkF w1 s3; clear s1 s2 s3; go_simp) ?_
        simp only [Act.put]
        refine wpTill_take 5 [13, 7, 6, 5] (v := .int .i64 (t : Int)) rfl (by kernel_rfl) (by kernel_rfl) (by kernel_rfl) (by kernel_rfl) (by kernel_rfl) (by kernel_rfl) (fun _ _ _ h => h) hS0 (by rfl) (fun w1 hS1 => by obtain ⟨s1, s2, s3⟩ := hS1; have y0 := s1.cellS hv; have y1 := s2.cellS (i := 0) (v := .int .i64 (t : Int)) rfl; have y2 := s2.cellS (i := 2) (v := .int .i64 item) rfl; have y3 := hlkF w1 s3; clear s1 s2 s3; go_simp) ?_
        simp only [Act.put]
        refine wpTill_take 10 [13, 12, 11, 10] (v := .int .i64 item) rfl (by kernel_rfl) (by kernel_rfl) (by kernel_rfl) (by kernel_rfl) (by kernel_rfl) (by kernel_rfl) (fun _ _ _ h => h) hS0 (by rfl) (fun w1 hS1 => by obtain ⟨s1, s2, s3⟩ := hS1; have y0 := s1.cellS hv; have y1 := s2.cellS (i := 0) (v := .int .i64 (t : Int)) rfl; have y2 := s2.cellS (i := 2) (v := .int .i64 item) rfl; have y3 := hlkF w1 s3; clear s1 s2 s3; go_simp) ?_
        simp only [Act.put]
        refine wpTill_take 6 [13, 7, 6] (v := .pointer (some ⟨w.heap.size, t, none⟩)) rfl (by kernel_rfl) (by kernel_rfl) (by kernel_rfl) (by kernel_rfl) (by kernel_rfl) (by kernel_rfl) (fun _ _ _ h => h) hS0 (by rfl) (fun w1 hS1 => by obtain ⟨s1, s2, s3⟩ := hS1; have y0 := s1.cellS hv; have y1 := s2.cellS (i := 0) (v := .int .i64 (t : Int)) rfl; have y2 := s2.cellS (i := 2) (v := .int .i64 item) rfl; have y3 := hlkF w1 s3; clear s1 s2 s3; go_simp) ?_
        simp only [Act.put]
        refine wpTill_take 7 [13, 7] (v := .slice A5 (S0.out t).length c5) rfl (by kernel_rfl) (by kernel_rfl) (by kernel_rfl) (by kernel_rfl) (by kernel_rfl) (by kernel_rfl) (fun _ _ _ h => h) hS0 (by rfl) (fun w1 hS1 => by obtain ⟨s1, s2, s3⟩ := hS1; have y0 := s1.cellS hv; have y1 := s2.cellS (i := 0) (v := .int .i64 (t : Int)) rfl; have y2 := s2.cellS (i := 2) (v := .int .i64 item) rfl; have y3 := hlkF w1 s3; clear s1 s2 s3; go_simp) ?_
        simp only [Act.put]
        refine wpTill_take 11 [13, 12, 11] (v := .agg #[.int .i64 p1, .int .i64 p2]) rfl (by kernel_rfl) (by kernel_rfl) (by kernel_rfl) (by kernel_rfl) (by kernel_rfl) (by kernel_rfl) (fun _ _ _ h => h) hS0 (by rfl) (fun w1 hS1 => by obtain ⟨s1, s2, s3⟩ := hS1; have y0 := s1.cellS hv; have y1 := s2.cellS (i := 0) (v := .int .i64 (t : Int)) rfl; have y2 := s2.cellS (i := 2) (v := .int .i64 item) rfl; have y3 := hlkF w1 s3; clear s1 s2 s3; go_simp) ?_
        simp only [Act.put]
        refine wpTill_one 12 rfl (by kernel_rfl) (fun K hK => ?_)
        have HK := Lib.hid hK
        clear hK
        go_simp
        refine HK.out _ _ (fun _ => ⟨q0, q1, hMLx⟩) ?_
        clear HK K

        refine wpTill_one 13 rfl (by kernel_rfl) (fun K hK => ?_)
        have HK := Lib.hid hK
        clear hK
        refine step_app3 rfl (.tmp 33) (.tmp 38) _ rfl (w.heap.size + 3) slt_source (n := (S0.out t).length) (xs := dcells (S0.out t)) (m := 1) (news := dcells [(p1, p2)]) rfl (own_alloc hown _) rfl (rd_new' _ _ (dcells [(p1, p2)]) (by simp) rfl) (oneD _) (by omega) (by simp; omega) ?_
        intro v7 w7 hown7 hg7 hb7 hat7
        obtain ⟨A7, c7, rfl⟩ := own_slice hown7
        have r0 := q0.grown hg7 (fun k hk => fun e => (hnb k hk).1 e.symm)
        have r1 := q1.grown hg7 (fun k hk => fun e => (hnb k hk).2 e.symm)
        have k0 := r0.cellS hv
        have k1 := r0.frozen t
        refine HK.out _ _ (fun _ => ⟨r0, r1, hMLx.below hb7 (by omega)⟩) ?_
        clear HK K
        simp only [Act.put]
        refine wpTill_one 14 rfl (by kernel_rfl) (fun K hK => ?_)
        have HK := Lib.hid hK
        clear hK
        go_simp
        refine HK.out _ _ (fun _ => ⟨r0, r1, hMLx.below hb7 (by omega)⟩) ?_
        clear HK K
        refine wpTill_one 15 rfl (by kernel_rfl) (fun K hK => ?_)
        have HK := Lib.hid hK
        clear hK
        go_simp
        refine HK.out _ _ (fun h => absurd rfl h) ?_
        clear HK K
        refine wpTill_done (by kernel_rfl) (NoPanic.normal ?_) _

        rw [← dcells_append] at hown7
        have hRO7 := hROx.put (by omega) hv hg7 (l := S0.out t ++ [(p1, p2)]) (by rw [List.length_append]; exact hown7) hat7
        have hML7 := (hMLx.below hb7 (by omega)).set (p := ⟨w.heap.size, t, none⟩) (by simp) (.slice A7 ((S0.out t).length + 1) c7)
        have hMM7 := (hMMx.below hb7 (by omega)).set (p := ⟨w.heap.size, t, none⟩) (by simp) (.slice A7 ((S0.out t).length + 1) c7)
        have hbw7 := (hbwx.trans (hb7.mono (by omega))).setCell (p := ⟨w.heap.size, t, none⟩) (Nat.le_refl _) (.slice A7 ((S0.out t).length + 1) c7)
        have hz7 := hb7.size
        have HTl2 : Hid (Tells ml (srcF (h.take (k + 1))).last) := Lib.hid (by rw [HS1.out]; exact HTl.out)
        have hRO8 : RowsOk (w7.setCell ⟨w.heap.size, t, none⟩ (.slice A7 ((S0.out t).length + 1) c7)) (w.heap.size + 3) w.heap.size (vs.set t (.slice A7 ((S0.out t).length + 1) c7)) (srcF (h.take (k + 1))).out := by rw [HS1.out]; exact hRO7
        have hz8 : w.heap.size + 3 ≤ (w7.setCell ⟨w.heap.size, t, none⟩ (.slice A7 ((S0.out t).length + 1) c7)).heap.size := by
          simp [World.drew] at hz7 ⊢
          omega
        clear hRO7 hg7 hb7 hat7 hown7 r0 r1 k0 k1 q0 q1 hROx hMLx hMMx hbwx
        go_wp2
        go_roundw
        case rel => exact ⟨k + 1, ml, _, vs.set t (.slice A7 ((S0.out t).length + 1) c7), by omega, by go_num, hML7, hMM7, HTl2, HC2, hRO8, hz8, hbw7⟩
        case measure => simp [intOf]; omega
      · by_cases hw2 : what = 2
        · subst hw2
          have t1 : ((2 : Int) == 1) = false := rfl
          have HS1 : Hid (srcF (h.take (k + 1)) = ⟨upd S0.last item (tx, (c : Int) + 1), upd S0.many tx (S0.many tx + 1), S0.out⟩) := Lib.hid (by rw [HS.out]; unfold stepS; rw [if_neg (by simp), if_pos rfl]; simp only [HMC.out])
          go_wp2_with (first
            | ((with_reducible show wpList _ _ _ _ _ _); (refine wpList_countI rfl (.tmp 17) (.tmp 19) _ rfl HT.out.1 HT.out.2.1 (b := w.heap.size + 2) (m := mm) (k := tx) (c := c) hMMa HC.out HCC.out HT.out.2.2 rfl rfl ?_))
            | ((with_reducible show wpList _ _ _ _ _ _); (refine wpList_updateI rfl (.tmp 17) (.tmp 19) (.tmp 21) _ rfl HT.out.1 HT.out.2.1 (b := w.heap.size + 2) (m := mm) (k := tx) (u := .int .i64 ((c + 1 : Nat) : Int)) hMMa rfl rfl (by go_num) ?_; intro w4 hM4 hg4; have hz4 := hg4.size; have hO4 := hOa.grown hg4 (fun k hk => by injection hk; omega); have e0 := hO4.cellS (i := 0) (v := .int .i64 tx) rfl; have e1 := hO4.cellS (i := 1) (v := .int .i64 2) rfl; have e2 := hO4.cellS (i := 2) (v := .int .i64 item) rfl; have hML4 := hMLa.grown hg4 (fun j hj => by injection hj; omega)))
            | ((with_reducible show wpList _ _ _ _ _ _); (refine wpList_countI rfl (.tmp 48) (.tmp 50) _ rfl HT.out.1 HT.out.2.1 (b := w.heap.size + 2) (k := tx) (c := c + 1) hM4 HC2.out HCN.out HT.out.2.2 rfl rfl ?_))
            | ((with_reducible show wpList _ _ _ _ _ _); (refine wpList_updateI rfl (.tmp 43) (.tmp 45) (.tmp 52) _ rfl HT2.out.1 HT.out.2.1 (b := w.heap.size + 1) (m := ml) (k := item) (u := sVal (tx, ((c + 1 : Nat) : Int))) hML4 rfl rfl rfl ?_; intro w5 hML5 hg5; have hz5 := hg5.size)))
          have hRO5 := (hROa.other hg4 (by omega) (by omega)).other hg5 (by omega) (by omega)
          have hMM5 := hM4.grown hg5 (fun j hj => by injection hj; omega)
          have hbw5 := (hbwa.trans (belowGrown hg4 (by omega) (by omega))).trans (belowGrown hg5 (by omega) (by omega))
          have HTl2 : Hid (Tells (putI ml item (sVal (tx, ((c + 1 : Nat) : Int)))) (srcF (h.take (k + 1))).last) := Lib.hid (by rw [HS1.out]; exact HTl.out.put item _)
          have hRO6 : RowsOk w5 (w.heap.size + 3) w.heap.size vs (srcF (h.take (k + 1))).out := by rw [HS1.out]; exact hRO5
          have hz6 : w.heap.size + 3 ≤ w5.heap.size := by omega
          clear hROa hg4 hg5 hRO5
          go_roundw
          case rel => exact ⟨k + 1, _, _, vs, by omega, by go_num, hML5, hMM5, HTl2, HC2, hRO6, hz6, hbw5⟩
          case measure => simp [intOf]; omega
        · have t1 : (what == 1) = false := by simpa using hw1
          have t2 : (what == 2) = false := by simpa using hw2
          have HS1 : Hid (srcF (h.take (k + 1)) = ⟨S0.last, upd S0.many tx (S0.many tx + 1), S0.out⟩) := Lib.hid (by rw [HS.out]; unfold stepS; rw [if_neg hw1, if_neg hw2])
          go_wp2_with (first
            | ((with_reducible show wpList _ _ _ _ _ _); (refine wpList_countI rfl (.tmp 17) (.tmp 19) _ rfl HT.out.1 HT.out.2.1 (b := w.heap.size + 2) (m := mm) (k := tx) (c := c) hMMa HC.out HCC.out HT.out.2.2 rfl rfl ?_))
            | ((with_reducible show wpList _ _ _ _ _ _); (refine wpList_updateI rfl (.tmp 17) (.tmp 19) (.tmp 21) _ rfl HT.out.1 HT.out.2.1 (b := w.heap.size + 2) (m := mm) (k := tx) (u := .int .i64 ((c + 1 : Nat) : Int)) hMMa rfl rfl (by go_num) ?_; intro w4 hM4 hg4; have hz4 := hg4.size; have hO4 := hOa.grown hg4 (fun k hk => by injection hk; omega); have e0 := hO4.cellS (i := 0) (v := .int .i64 tx) rfl; have e1 := hO4.cellS (i := 1) (v := .int .i64 what) rfl)))
          have hML4 := hMLa.grown hg4 (fun j hj => by injection hj; omega)
          have hRO4 := hROa.other hg4 (by omega) (by omega)
          have hbw4 := hbwa.trans (belowGrown hg4 (by omega) (by omega))
          have HTl2 : Hid (Tells ml (srcF (h.take (k + 1))).last) := Lib.hid (by rw [HS1.out]; exact HTl.out)
          have hRO5 : RowsOk w4 (w.heap.size + 3) w.heap.size vs (srcF (h.take (k + 1))).out := by rw [HS1.out]; exact hRO4
          have hz5 : w.heap.size + 3 ≤ w4.heap.size := by omega
          clear hROa hg4 hRO4
          go_roundw
          case rel => exact ⟨k + 1, _, _, vs, by omega, by go_num, hML4, hM4, HTl2, HC2, hRO5, hz5, hbw4⟩
          case measure => simp [intOf]; omega
    · have HF : Hid (h.take k = h) := Lib.hid (List.take_of_length_le (by rw [HL.out]; omega))
      rw [HF.out] at hRO
      go_wp2
      go_ret
      exact ⟨vs, rfl, hRO, hbw⟩
end Go.Proofs.YtaaahfbcpgdoiaaGreatDoor
