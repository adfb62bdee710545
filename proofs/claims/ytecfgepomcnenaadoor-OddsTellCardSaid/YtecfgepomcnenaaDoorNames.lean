
/-
  CONTRACT of odds.names: each op's name (a map counts the ops of each deal).
-/
import Derived.Test.YtecfgepomcnenaaDoorAlikeP
import Derived.Test.YtecfgepomcnenaaDoorMap
namespace Go.Proofs.YtecfgepomcnenaaDoor
open Go.RowKit

theorem ownBut {w w' : World} {base : Nat} {e : TypeId} {size : Nat} {v : Value} {n : Nat} {xs : List Value} {g : Nat} (h : w.ownsRow base e size v n xs) (hg : w.grownBy w' (some g)) (hlt : g < base) : w'.ownsRow base e size v n xs := by
  refine h.kept hg ?_
  rcases h.2 with ⟨rfl, _⟩ | ⟨k, cap, cur, rfl, hk, _⟩
  · exact .inl rfl
  · right; simp [Value.ownBlock]; omega
theorem belowGrown {w w' : World} {B g : Nat} (hg : w.grownBy w' (some g)) (hB : B ≤ g) (hs : B ≤ w.heap.size) : Below B w w' :=
  ⟨hg.os, hg.tape, hg.output, hg.size, fun i hi => hg.block i (by omega) (by simp; omega)⟩
theorem getI_putI (k j : Int) (v : Value) : ∀ m : List (Int × Value), getI (putI m k v) j = if j = k then some v else getI m j
  | [] => by
    by_cases h : j = k
    · simp [putI, getI, h]
    · have : ¬ k = j := fun e => h e.symm
      simp [putI, getI, h, this]
  | p :: t => by
    unfold putI
    by_cases hp : p.1 = k
    · rw [if_pos hp]
      unfold getI
      by_cases h : j = k
      · simp [h]
      · have h2 : ¬ k = j := fun e => h e.symm
        have h3 : ¬ p.1 = j := fun e => h (by rw [← e, hp])
        simp [h, h2, h3]
    · rw [if_neg hp]
      unfold getI
      rw [getI_putI k j v t]
      by_cases h : p.1 = j
      · have h3 : ¬ j = k := fun e => hp (by rw [h, e])
        simp [h, h3]
      · simp [h]
/-- A map that counts: what a number has, 0 if it is not there. -/
def Counts (m : List (Int × Value)) (f : Int → Nat) : Prop := ∀ t, (getI m t).getD (.int .i64 0) = .int .i64 (f t)
theorem Counts.nil : Counts [] (fun _ => 0) := fun _ => rfl
theorem Counts.put {m : List (Int × Value)} {f f' : Int → Nat} (h : Counts m f) {k : Int} {c : Nat} (h1 : f' k = c) (h2 : ∀ t, t ≠ k → f' t = f t) : Counts (putI m k (.int .i64 (c : Int))) f' := by
  intro t
  rw [getI_putI]
  by_cases ht : t = k
  · rw [if_pos ht, ht, h1]; rfl
  · rw [if_neg ht, h2 t ht]; exact h t
theorem wpList_countI {P : Program} {w : World} {ops : Array Oper} {rest : List Oper} {o : Oper} {a : Act} {Q : Exit → Act → World → Prop} (hg : o.guard = none) (mo x : Operand) (t : TypeId) (hop : o.op = Op.lookup t mo x false) {kt et : TypeId} (ht : P.underlying t = some (.map kt et)) (hk : P.underlying kt = some (.int .i64)) {b : Nat} {m : List (Int × Value)} {f : Int → Nat}
    (hm : MapI w b m) (hf : Counts m f) {k : Int} {c : Nat} (hc : f k = c) (hz : ∀ w, (zeroValue et).run P w = .ok (.int .i64 0) w) (hmo : a.eval mo = .map (some b)) (hx : a.eval x = .int .i64 k)
    (h : wpList P ops Q rest (a.put o.dst (.int .i64 (c : Int))) w) : wpList P ops Q (o :: rest) a w :=
  wpList_lookupI hg mo x t false hop ht hk hm hz hmo hx (by rw [if_neg (by simp), hf k, hc]; exact h)
theorem slt_named : SlT Tryd.prog 96 99 2 16 := slt_of (z := .agg #[.int .i64 0, .int .i64 0]) Tryd.underlying96 (by kernel_rfl) (by kernel_rfl) (by decide) (by decide)

set_option maxRecDepth 100000 in
set_option maxHeartbeats 2000000 in
theorem names_any (A : Option Addr) (n cap : Nat) (h : List HOp) (w : World) (hr : Rd w w.heap.size 3 A n (cellsH h)) (hm : n ≤ 40) :
    Calls Tryd.prog 72 #[.slice A n cap] w fun e w' => ∃ v, e = .returned v ∧ w'.ownsRow w.heap.size 99 2 v n (dcells (namesF h)) ∧ Below w.heap.size w w' := by
  have HL := Lib.hid hr.hlen
  have hmapT : Tryd.prog.underlying 134 = some (.map 3 3) := by kernel_rfl
  have hintT : Tryd.prog.underlying 3 = some (.int .i64) := by kernel_rfl
  have hzT : ∀ w, (zeroValue 3).run Tryd.prog w = .ok (.int .i64 0) w := fun w => by kernel_rfl
  have HT := Lib.hid (And.intro hmapT (And.intro hintT hzT))
  clear hmapT hintT hzT
  have hmm := @run_makeMap Tryd.prog
  have hM0 : MapI (w.alloc (.map #[] 0)) w.heap.size [] := MapI.new w
  have hb0 : Below w.heap.size w (w.alloc (.map #[] 0)) := (Below.refl _ _).alloc (Nat.le_refl _) _
  go_enter Tryd.func72, Tryd.ntmps72
  go_wp2
  clear hmm
  go_loopw [3, 10] (fun s3 s10 wr => ∃ (k : Nat) (m : List (Int × Value)), k ≤ n ∧ s10 = .int .i64 k ∧ MapI wr w.heap.size m ∧ Hid (Counts m (cntT (h.take k))) ∧ wr.ownsRow (w.heap.size + 1) 99 2 s3 k (dcells (namesF (h.take k))) ∧ w.heap.size + 1 ≤ wr.heap.size ∧ Below w.heap.size w wr) (fun _ s10 _ => n - (intOf s10).toNat)
  case atStart => exact ⟨0, [], Nat.zero_le _, rfl, hM0, Lib.hid Counts.nil, World.ownsRow_nil _ _ _ _, by simp, hb0⟩
  case round =>
    clear hM0 hb0
    obtain ⟨k, m, hk, rfl, hM, HC, ho3, hz, hbw⟩ := hrel
    obtain ⟨A3, c3, rfl⟩ := own_slice ho3
    by_cases hlt : k < n
    · obtain ⟨b, off, o, he, hb, ho, c0, c1, c2⟩ := (hr.below hbw).op (k := k) (by omega)
      cases he
      have HS := Lib.hid (namesF_snoc ho)
      have hle40 : cntT (h.take k) o.tx ≤ 40 := by
        have h1 : cntT (h.take k) o.tx ≤ (h.take k).length := List.countP_le_length
        rw [List.length_take] at h1; omega
      have HN := Lib.hid (cntT_next ho)
      have HC2 : Hid (Counts (putI m o.tx (.int .i64 ((cntT (h.take k) o.tx + 1 : Nat) : Int))) (cntT (h.take (k + 1)))) := Lib.hid (HC.out.put (cntT_next ho) (fun t ht => by
        rw [takeSnoc ho, cntT_snoc, if_neg (fun e => ht e.symm)]; rfl))
      obtain ⟨tx, what, item⟩ := o
      simp only at c0 c1 c2 HS HN HC2 hle40
      obtain ⟨c, hc⟩ : ∃ c, cntT (h.take k) tx = c := ⟨_, rfl⟩
      have HCC := Lib.hid hc
      have HCN : Hid (cntT (h.take (k + 1)) tx = c + 1) := Lib.hid (by rw [HN.out, hc])
      rw [HCN.out] at HS
      rw [hc] at HC2 hle40
      clear HN hc ho
      have hOa := Blk.new wr 27 [.int .i64 tx, .int .i64 what, .int .i64 item]
      have hMa := hM.alloc (.cells #[.int .i64 tx, .int .i64 what, .int .i64 item] 27)
      have hoa := own_alloc ho3 (.cells #[.int .i64 tx, .int .i64 what, .int .i64 item] 27)
      have hbwa : Below w.heap.size w (wr.alloc (.cells #[.int .i64 tx, .int .i64 what, .int .i64 item] 27)) := hbw.alloc (by omega) _
      have hMlt := hM.lt
      go_wp2_with (first
        | ((with_reducible show wpList _ _ _ _ _ _); (refine wpList_countI rfl (.tmp 14) (.tmp 16) _ rfl HT.out.1 HT.out.2.1 (b := w.heap.size) (m := m) (k := tx) (c := c) hMa HC.out HCC.out HT.out.2.2 rfl rfl ?_))
        | ((with_reducible show wpList _ _ _ _ _ _); (refine wpList_updateI rfl (.tmp 14) (.tmp 16) (.tmp 18) _ rfl HT.out.1 HT.out.2.1 (b := w.heap.size) (m := m) (k := tx) (u := .int .i64 ((c + 1 : Nat) : Int)) hMa rfl rfl (by go_num) ?_; intro w4 hM4 hg4; have hz4 := hg4.size; have hO4 := hOa.grown hg4 (fun k hk => by injection hk; omega); have ho4 := ownBut hoa hg4 (by omega); have e0 := hO4.cellS (i := 0) (v := .int .i64 tx) rfl))
        | ((with_reducible show wpList _ _ _ _ _ _); (refine wpList_countI rfl (.tmp 22) (.tmp 24) _ rfl HT.out.1 HT.out.2.1 (b := w.heap.size) (k := tx) (c := c + 1) hM4 HC2.out HCN.out HT.out.2.2 rfl rfl ?_))
        | (at_builtin; (refine wpList_app rfl (.tmp 19) (.tmp 27) _ rfl (w.heap.size + 1) slt_named (n := k) (xs := dcells (namesF (h.take k))) (m := 1) (news := dcells [(tx, ((c + 1 : Nat) : Int))]) rfl (own_alloc ho4 _) rfl (rd_new' _ _ (dcells [(tx, ((c + 1 : Nat) : Int))]) (by simp) rfl) (oneD _) (by omega) (by simp at hz4 ⊢; omega) ?_; intro v5 w5 hown5 hg5 hb5 hat5 hne5)))
      rw [← dcells_append, ← HS.out] at hown5
      simp at hz4
      have hM5 := (hM4.alloc (.cells (dcells [(tx, ((c + 1 : Nat) : Int))]).toArray 99)).below hb5 (by omega)
      have hbw5 := ((hbwa.trans (belowGrown hg4 (Nat.le_refl _) (by simp; omega))).alloc (by omega) (.cells (dcells [(tx, ((c + 1 : Nat) : Int))]).toArray 99)).trans (hb5.mono (by omega))
      have hz5 := hb5.size
      simp at hz5
      go_roundw
      case rel => exact ⟨k + 1, _, by omega, by go_num, hM5, HC2, hown5, by omega, hbw5⟩
      case measure => simp [intOf]; omega
    · have HF : Hid (h.take k = h) := Lib.hid (List.take_of_length_le (by rw [HL.out]; omega))
      obtain rfl : k = n := by omega
      rw [HF.out] at ho3
      go_wp2
      go_ret
      exact ⟨_, rfl, own_mono ho3 (by omega), hbw⟩
end Go.Proofs.YtecfgepomcnenaaDoor
