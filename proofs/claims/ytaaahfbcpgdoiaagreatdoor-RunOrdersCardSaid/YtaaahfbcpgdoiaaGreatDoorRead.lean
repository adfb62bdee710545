
/-
  CONTRACTS of strings.Index at one byte, history.read: the op that a word is.
-/
import Derived.Test.YtaaahfbcpgdoiaaGreatDoorText
import Derived.Test.YtaaahfbcpgdoiaaGreatDoorLaysS
import Derived.OrdersHeld
import Derived.BigQuiet
import Derived.Deep.DeepCutAuto

namespace Go.Proofs.YtaaahfbcpgdoiaaGreatDoor
open Go.RowKit Go.Shelf

section
variable {P : Program} {ops : Array Oper} {Q : Exit → Act → World → Prop} {md : Region.Mode} {S : World → Prop}
theorem wpAnyH_takeR (i : Nat) (d : Option Tmp) (v : Value) {oi : Oper} {fuel : Nat} {listed : Array Bool} {a : Act} {w : World} (hi : ops[i]? = some oi) (hd : oi.dst = d)
    (hs : Region.noSelect ops = true) (hf : Region.free md ops listed i = true) (hr : (Region.ready md ops listed).contains i = true)
    (hQ : ∀ c a w, Q (.panic c) (a.put d v) w → Q (.panic c) a w) (hy : YieldsIf P ops S oi v a) (hS : S w)
    (h : wpAnyH P md ops Q S fuel (listed.setIfInBounds i true) (a.put d v) w) : wpAnyH P md ops Q S (fuel + 1) listed a w := by
  subst hd
  exact wpAnyH_take hi hs hf hr hQ hy hS h
end
/-- The place of a byte, counted from 1; 0: it is not there. -/
def plB (l : List UInt8) (c : UInt8) : Int := Go.Lib.indexByte l c + 1
theorem plB_rng (l : List UInt8) (c : UInt8) (hl : l.length ≤ 6) : 0 ≤ plB l c ∧ plB l c ≤ 6 := by
  unfold plB
  have h1 := Go.Lib.indexByte_ge l c
  have h2 : ∀ l : List UInt8, Go.Lib.indexByte l c < l.length ∨ Go.Lib.indexByte l c = -1 := by
    intro l
    induction l with
    | nil => exact .inr rfl
    | cons b l ih =>
      unfold Go.Lib.indexByte
      split
      · left; simp only [List.length_cons]; omega
      · split
        · exact .inr rfl
        · rename_i h3
          rcases ih with ih | ih
          · left; simp only [List.length_cons]; omega
          · exact absurd (beq_iff_eq.2 ih) h3
  rcases h2 l with h | h <;> omega
theorem idx_any (l : List UInt8) (c : UInt8) (w : World) : Calls Tryz.prog 83 #[.string ⟨l.toArray⟩, .string ⟨#[c]⟩] w fun e w' => e = .returned (.int .i64 (plB l c - 1)) ∧ w' = w := by
  have h := Any.strings_Index_one Tryz.lIndex ⟨l.toArray⟩ c w
  refine h.mono fun e w' ⟨h1, h2⟩ => ⟨h1.trans ?_, h2⟩
  show Ending.returned (.int .i64 (Go.Lib.indexByte l.toArray.toList c)) = _
  rw [show l.toArray.toList = l by simp]
  unfold plB
  rw [show Go.Lib.indexByte l c + 1 - 1 = Go.Lib.indexByte l c by omega]
def rd2 (a b : UInt8) : HOp := ⟨plB [49, 50, 51, 52, 53, 54] b, plB [114, 119, 99, 97] a, 0⟩
def rd5 (a b d : UInt8) : HOp := ⟨plB [49, 50, 51, 52, 53, 54] b, plB [114, 119, 99, 97] a, plB [97, 98, 99, 100, 101, 102] d⟩
def shapeOk (o : HOp) : Bool := match textL o with
  | [a, b] => decide (o = rd2 a b)
  | [a, b, _, d, _] => decide (o = rd5 a b d)
  | _ => false
theorem shape_all : ∀ o ∈ allOps, shapeOk o = true := by decide +kernel
theorem word2 {a b : UInt8} {o : HOp} (h : wordF [a, b] = some o) : o = rd2 a b := by
  obtain ⟨h1, h2⟩ := wordF_some h
  have := shape_all o (mem_allOps.1 h1)
  unfold shapeOk at this
  rw [h2] at this
  simpa using this
theorem word5 {a b c d f : UInt8} {o : HOp} (h : wordF [a, b, c, d, f] = some o) : o = rd5 a b d := by
  obtain ⟨h1, h2⟩ := wordF_some h
  have := shape_all o (mem_allOps.1 h1)
  unfold shapeOk at this
  rw [h2] at this
  simpa using this
theorem word_len {s : List UInt8} {o : HOp} (h : wordF s = some o) : s.length = 2 ∨ s.length = 5 := by
  obtain ⟨h1, h2⟩ := wordF_some h
  have := shape_all o (mem_allOps.1 h1)
  unfold shapeOk at this
  rw [h2] at this
  split at this
  · exact .inl rfl
  · exact .inr rfl
  · cases this
/-- Whether the op that is read at the places is the word. -/
theorem word_is {s : List UInt8} {o : HOp} (h : ∀ p, wordF s = some p → p = o) : (wordF s).isSome = (rightB o && decide (textL o = s)) := by
  cases e : wordF s with
  | some p =>
    have hp := h p e
    subst hp
    obtain ⟨h1, h2⟩ := wordF_some e
    rw [h1, decide_eq_true h2]; rfl
  | none =>
    cases hr : rightB o with
    | false => rfl
    | true =>
      by_cases ht : textL o = s
      · exfalso
        have := wordF_text hr
        rw [ht, e] at this
        cases this
      · rw [decide_eq_false ht]; rfl
theorem str_beq (x y : List UInt8) : ((⟨x.toArray⟩ : ByteArray) == ⟨y.toArray⟩) = decide (x = y) := by
  have e : ((⟨x.toArray⟩ : ByteArray) == ⟨y.toArray⟩) = (x.toArray == y.toArray) := rfl
  rw [e]
  by_cases h : x = y
  · subst h; simp
  · rw [decide_eq_false h, beq_eq_false_iff_ne]
    intro e2
    exact h (by simpa using congrArg Array.toList e2)
theorem wrap64 {n : Int} (h0 : 0 ≤ n) (h1 : n < 1000) : IntKind.i64.wrap n = n := by
  simp [IntKind.wrap, IntKind.bits, IntKind.signed]
  omega
def RdPost (s : List UInt8) (w : World) (e : Ending) (w' : World) : Prop := ∃ o : HOp, e = .returned (.tuple #[o.val, .bool (wordF s).isSome]) ∧ (∀ p, wordF s = some p → p = o) ∧ Below w.heap.size w w'
set_option maxHeartbeats 1000000 in
theorem read_not (s : List UInt8) (w : World) (h2 : s.length ≠ 2) (h5 : s.length ≠ 5) : Calls Tryz.prog 45 #[.string ⟨s.toArray⟩] w (RdPost s w) := by
  have hn : wordF s = none := by
    cases e : wordF s with
    | none => rfl
    | some o => rcases word_len e with h | h <;> omega
  have HN := Lib.hid hn
  have hz : (⟨s.toArray⟩ : ByteArray).size = s.length := rfl
  generalize (⟨s.toArray⟩ : ByteArray) = b at *
  have n2 : ((b.size : Int) != 2) = true := by rw [hz]; simp; omega
  have n5 : ((b.size : Int) != 5) = true := by rw [hz]; simp; omega
  have HB : Hid (Below w.heap.size w w) := Lib.hid (Below.refl _ _)
  clear hz hn h2 h5
  go_enter Tryz.func45, Tryz.ntmps45
  go_wp2
  refine bodyPost_ret (by rw [results_cell_tmp rfl]; go_simp; rfl) rfl ?_
  exact ⟨⟨0, 0, 0⟩, by rw [HN.out]; rfl, by rw [HN.out]; intro p hp; (cases hp), by first | exact (Below.refl _ _).alloc (Nat.le_refl _) _ | exact ((Below.refl _ _).alloc (Nat.le_refl _) _).setCell (Nat.le_refl _) _⟩

set_option maxRecDepth 100000 in
set_option maxHeartbeats 4000000 in
theorem read_two (a b : UInt8) (w : World) : Calls Tryz.prog 45 #[.string ⟨#[a, b]⟩] w (RdPost [a, b] w) := by
  have x1 : (ByteArray.mk #[a, b]).extract 0 1 = ⟨#[a]⟩ := by apply ByteArray.ext; simp
  have x2 : (ByteArray.mk #[a, b]).extract 1 2 = ⟨#[b]⟩ := by apply ByteArray.ext; simp
  have I1 := hide (fun W => idx_any [114, 119, 99, 97] a W)
  have I2 := hide (fun W => idx_any [49, 50, 51, 52, 53, 54] b W)
  obtain ⟨a0, a6⟩ := plB_rng [114, 119, 99, 97] a (by decide)
  obtain ⟨b0, b6⟩ := plB_rng [49, 50, 51, 52, 53, 54] b (by decide)
  have HO : Hid (∀ p, wordF [a, b] = some p → p = ⟨plB [49, 50, 51, 52, 53, 54] b, plB [114, 119, 99, 97] a, 0⟩) := Lib.hid (fun p hp => word2 hp)
  generalize plB [114, 119, 99, 97] a = A at *
  generalize plB [49, 50, 51, 52, 53, 54] b = B at *
  have HI := Lib.hid (word_is (s := [a, b]) (o := ⟨B, A, 0⟩) HO.out)
  have HBQ : Hid ((textL ⟨B, A, 0⟩ == [a, b]) = decide (textL ⟨B, A, 0⟩ = [a, b])) := Lib.hid (by rw [Bool.eq_iff_iff]; simp)
  have CR := hide (fun W => right_any ⟨B, A, 0⟩ W)
  have CT := hide (fun hr W => text_any ⟨B, A, 0⟩ hr W)
  unfold HOp.val at CR CT
  have hA : IntKind.i64.wrap A = A := wrap64 (by omega) (by omega)
  have hB : IntKind.i64.wrap B = B := wrap64 (by omega) (by omega)
  have HB0 : Hid (Below w.heap.size w (((w.alloc (.cells #[.int .i64 0, .int .i64 0, .int .i64 0] 91)).alloc (.cells #[.int .i64 B, .int .i64 A, .int .i64 0] 91)).drew)) := Lib.hid ((((Below.refl _ _).alloc (Nat.le_refl _) _).alloc (by simp) _).drew)
  obtain ⟨W0, hW0⟩ : ∃ W0, W0 = ((w.alloc (.cells #[.int .i64 0, .int .i64 0, .int .i64 0] 91)).alloc (.cells #[.int .i64 B, .int .i64 A, .int .i64 0] 91)) := ⟨_, rfl⟩
  have HW0 := Lib.hid hW0
  have hz : W0.heap.size = w.heap.size + 2 := by rw [hW0]; simp
  have f0 : Blk W0 w.heap.size 91 [.int .i64 0, .int .i64 0, .int .i64 0] := by rw [hW0]; exact (Blk.new w 91 [.int .i64 0, .int .i64 0, .int .i64 0]).alloc _
  have f1 : Blk W0 (w.heap.size + 1) 91 [.int .i64 B, .int .i64 A, .int .i64 0] := by rw [hW0]; have := Blk.new (w.alloc (.cells #[.int .i64 0, .int .i64 0, .int .i64 0] 91)) 91 [.int .i64 B, .int .i64 A, .int .i64 0]; simpa using this
  have HF := Lib.hid (And.intro f0 (And.intro f1 hz))
  clear f0 f1 hz hW0
  obtain ⟨W1, hW1⟩ : ∃ W1, W1 = ((w.alloc (.cells #[.int .i64 0, .int .i64 0, .int .i64 0] 91)).alloc (.cells #[.int .i64 B, .int .i64 A, .int .i64 0] 91)) := ⟨_, rfl⟩
  have HW1 := Lib.hid hW1
  clear hW1
  go_enter Tryz.func45, Tryz.ntmps45
  go_upto_region 6 with fail
  go_cut [4] (fun s4 wx => s4 = .pointer (some ⟨w.heap.size + 1, 0, none⟩) ∧ W1.drew = wx)
  case first =>
    go_wp2
    go_region_held3 (fun _ => True) (trivial) (first
      | (go_at_call 83; refine (unhide I1 _).mono ?_; rintro e w1 ⟨rfl, rfl⟩)
      | (go_at_call 83; refine (unhide I2 _).mono ?_; rintro e w1 ⟨rfl, rfl⟩))
    all_goals
      go_wp2
      go_meet
      case rel => exact ⟨rfl, by rw [HW1.out]⟩
  case rest =>
  obtain ⟨rfl, hwx⟩ := hcut
  subst hwx
  obtain ⟨f0, f1, hz⟩ := HF.out
  rw [← HW0.out] at HB0
  rw [HW1.out]
  go_wp2
  rw [← HW0.out]
  have g0 := f1.cellS (i := 0) (v := .int .i64 B) rfl
  have g1 := f1.cellS (i := 1) (v := .int .i64 A) rfl
  have g2 := f1.cellS (i := 2) (v := .int .i64 0) rfl
  have hc : (fun w' => w'.cell? ⟨w.heap.size + 1, 0, none⟩ = some (.int .i64 B) ∧ w'.cell? ⟨w.heap.size + 1, 1, none⟩ = some (.int .i64 A) ∧ w'.cell? ⟨w.heap.size + 1, 2, none⟩ = some (.int .i64 0)) W0.drew := ⟨g0, g1, g2⟩
  clear x1 x2 I1 I2 HW0 HF
  cases hR : rightB ⟨B, A, 0⟩
  · rw [hR] at CR HI
    rw [Bool.false_and] at HI
    refine wp_region_held_drew (S := (fun w' => w'.cell? ⟨w.heap.size + 1, 0, none⟩ = some (.int .i64 B) ∧ w'.cell? ⟨w.heap.size + 1, 1, none⟩ = some (.int .i64 A) ∧ w'.cell? ⟨w.heap.size + 1, 2, none⟩ = some (.int .i64 0))) (by kernel_rfl) hc (fun hHeld => ?_)
    refine wpAnyH_takeR 0 (some 31) (.agg #[.int .i64 B, .int .i64 A, .int .i64 0]) rfl rfl (by kernel_rfl) (by kernel_rfl) (by kernel_rfl) (fun _ _ _ h => h) (Or.inl ⟨by rfl, fun wz hz => by obtain ⟨_, _, _⟩ := hz; go_simp; try rfl⟩) (by assumption) ?_
    refine wpAnyH_takeR 1 (some 32) (.agg #[.int .i64 B, .int .i64 A, .int .i64 0]) rfl rfl (by kernel_rfl) (by kernel_rfl) (by kernel_rfl) (fun _ _ _ h => h) (Or.inl ⟨by rfl, fun wz hz => by obtain ⟨_, _, _⟩ := hz; go_simp; try rfl⟩) (by assumption) ?_
    simp only [Act.put, List.setIfInBounds_toArray, List.set_cons_zero, List.set_cons_succ]
    refine wpAnyH_ready (rs := [2]) (by kernel_rfl) (by simp) ?_
    refine AllReadyH.cons (o := { dst := some 33, op := .call { callee := .value (.func 84), args := #[.tmp 32], argTypes := #[91] }, type := 4, pos := "history.go:143", after := #[{ on := 1, ground := .data }], guard := none }) rfl (fun K hK => ?_) AllReadyH.nil
    go_simp
    go_at_call 84
    refine (unhide CR _).mono ?_
    rintro e w5 ⟨rfl, hb5⟩
    have e0 := f0.drew.drew.below hb5 (show w.heap.size < W0.drew.drew.heap.size by show w.heap.size < W0.heap.size; omega)
    have e1 := f1.drew.drew.below hb5 (show w.heap.size + 1 < W0.drew.drew.heap.size by show w.heap.size + 1 < W0.heap.size; omega)
    have hbw5 := HB0.out.drew.trans (hb5.mono HB0.out.drew.size)
    have hc5 : (fun w' => w'.cell? ⟨w.heap.size + 1, 0, none⟩ = some (.int .i64 B) ∧ w'.cell? ⟨w.heap.size + 1, 1, none⟩ = some (.int .i64 A) ∧ w'.cell? ⟨w.heap.size + 1, 2, none⟩ = some (.int .i64 0)) w5 := ⟨e1.cellS rfl, e1.cellS rfl, e1.cellS rfl⟩
    refine hK.out _ _ hc5 (fun hHeld5 => ?_)
    clear hK K hc hHeld hb5 CR
    refine wpAnyH_takeR 3 (some 34) (.bool false) rfl rfl (by kernel_rfl) (by kernel_rfl) (by kernel_rfl) (fun _ _ _ h => h) (Or.inl ⟨by rfl, fun _ _ => by go_simp; try rfl⟩) (by assumption) ?_
    refine wpAnyH_takeR 4 (some 35) (undef) rfl rfl (by kernel_rfl) (by kernel_rfl) (by kernel_rfl) (fun _ _ _ h => h) (Or.inr ⟨by rfl, rfl⟩) (by assumption) ?_
    refine wpAnyH_takeR 5 (some 36) (undef) rfl rfl (by kernel_rfl) (by kernel_rfl) (by kernel_rfl) (fun _ _ _ h => h) (Or.inr ⟨by rfl, rfl⟩) (by assumption) ?_
    refine wpAnyH_takeR 6 (some 37) (undef) rfl rfl (by kernel_rfl) (by kernel_rfl) (by kernel_rfl) (fun _ _ _ h => h) (Or.inr ⟨by rfl, rfl⟩) (by assumption) ?_
    refine wpAnyH_takeR 7 (some 38) (undef) rfl rfl (by kernel_rfl) (by kernel_rfl) (by kernel_rfl) (fun _ _ _ h => h) (Or.inr ⟨by rfl, rfl⟩) (by assumption) ?_
    refine wpAnyH_takeR 8 (some 39) (.bool false) rfl rfl (by kernel_rfl) (by kernel_rfl) (by kernel_rfl) (fun _ _ _ h => h) (Or.inl ⟨by rfl, fun _ _ => by go_simp; try rfl⟩) (by assumption) ?_
    simp only [Act.put, List.setIfInBounds_toArray, List.set_cons_zero, List.set_cons_succ]
    refine wpAnyH_ready (rs := [9]) (by kernel_rfl) (by simp) ?_
    refine AllReadyH.cons (o := { dst := none, op := .store 91 (.tmp 2) (.tmp 31), type := 0, pos := "history.go:143", after := #[{ on := 0, ground := .data }, { on := 5, ground := .chain }, { on := 0, ground := .phase }, { on := 1, ground := .textOnly .lateStores }, { on := 2, ground := .textOnly .lateStoresUnsure }, { on := 3, ground := .textOnly .lateStores }, { on := 4, ground := .textOnly .lateStores }, { on := 5, ground := .textOnly .lateStoresUnsure }, { on := 6, ground := .textOnly .lateStores }, { on := 7, ground := .textOnly .lateStores }, { on := 8, ground := .textOnly .lateStores }], guard := none }) rfl (fun K hK => ?_) AllReadyH.nil
    have k0 := e0.cellS (i := 0) (v := .int .i64 0) rfl
    have k1 := e0.cellS (i := 1) (v := .int .i64 0) rfl
    have k2 := e0.cellS (i := 2) (v := .int .i64 0) rfl
    have l0 := e0.frozen 0
    have l1 := e0.frozen 1
    have l2 := e0.frozen 2
    go_simp
    have E6 := ((e0.put 0 (.int .i64 B)).put 1 (.int .i64 A)).put 2 (.int .i64 0)
    have F6 := ((e1.far (p := ⟨w.heap.size, 0, none⟩) (by show w.heap.size + 1 ≠ w.heap.size; omega) (.int .i64 B)).far (p := ⟨w.heap.size, 1, none⟩) (by show w.heap.size + 1 ≠ w.heap.size; omega) (.int .i64 A)).far (p := ⟨w.heap.size, 2, none⟩) (by show w.heap.size + 1 ≠ w.heap.size; omega) (.int .i64 0)
    have hb6 := ((hbw5.setCell (p := ⟨w.heap.size, 0, none⟩) (Nat.le_refl _) (.int .i64 B)).setCell (p := ⟨w.heap.size, 1, none⟩) (Nat.le_refl _) (.int .i64 A)).setCell (p := ⟨w.heap.size, 2, none⟩) (Nat.le_refl _) (.int .i64 0)
    have hc6 : (fun w' => w'.cell? ⟨w.heap.size + 1, 0, none⟩ = some (.int .i64 B) ∧ w'.cell? ⟨w.heap.size + 1, 1, none⟩ = some (.int .i64 A) ∧ w'.cell? ⟨w.heap.size + 1, 2, none⟩ = some (.int .i64 0)) (((w5.setCell ⟨w.heap.size, 0, none⟩ (.int .i64 B)).setCell ⟨w.heap.size, 1, none⟩ (.int .i64 A)).setCell ⟨w.heap.size, 2, none⟩ (.int .i64 0)) := ⟨F6.cellS rfl, F6.cellS rfl, F6.cellS rfl⟩
    have q0 := E6.cellS (i := 0) (v := .int .i64 B) rfl
    have q1 := E6.cellS (i := 1) (v := .int .i64 A) rfl
    have q2 := E6.cellS (i := 2) (v := .int .i64 0) rfl
    refine hK.out _ _ hc6 (fun hHeld6 => ?_)
    clear hK K k0 k1 k2 l0 l1 l2
    obtain ⟨w6, hw6⟩ : ∃ w6, ((w5.setCell ⟨w.heap.size, 0, none⟩ (.int .i64 B)).setCell ⟨w.heap.size, 1, none⟩ (.int .i64 A)).setCell ⟨w.heap.size, 2, none⟩ (.int .i64 0) = w6 := ⟨_, rfl⟩
    rw [hw6] at q0 q1 q2 hb6 hc6 hHeld6 ⊢
    refine wpAnyH_takeR 10 (some 3) (.bool false) rfl rfl (by kernel_rfl) (by kernel_rfl) (by kernel_rfl) (fun _ _ _ h => h) (Or.inl ⟨by rfl, fun _ _ => by go_simp; try rfl⟩) (by assumption) ?_
    simp only [Act.put, List.setIfInBounds_toArray, List.set_cons_zero, List.set_cons_succ]
    refine wpAnyH_done (by kernel_rfl) ?_ _
    go_wp2
    refine bodyPost_ret (by rw [results_cell_tmp rfl]; go_simp; try rfl) rfl ?_
    exact ⟨⟨B, A, 0⟩, by rw [HI.out]; rfl, HO.out, hb6⟩
  · rw [hR] at CR HI
    rw [Bool.true_and] at HI
    have CT2 := hide (unhide CT hR)
    refine wp_region_held_drew (S := (fun w' => w'.cell? ⟨w.heap.size + 1, 0, none⟩ = some (.int .i64 B) ∧ w'.cell? ⟨w.heap.size + 1, 1, none⟩ = some (.int .i64 A) ∧ w'.cell? ⟨w.heap.size + 1, 2, none⟩ = some (.int .i64 0))) (by kernel_rfl) hc (fun hHeld => ?_)
    refine wpAnyH_takeR 0 (some 31) (.agg #[.int .i64 B, .int .i64 A, .int .i64 0]) rfl rfl (by kernel_rfl) (by kernel_rfl) (by kernel_rfl) (fun _ _ _ h => h) (Or.inl ⟨by rfl, fun wz hz => by obtain ⟨_, _, _⟩ := hz; go_simp; try rfl⟩) (by assumption) ?_
    refine wpAnyH_takeR 1 (some 32) (.agg #[.int .i64 B, .int .i64 A, .int .i64 0]) rfl rfl (by kernel_rfl) (by kernel_rfl) (by kernel_rfl) (fun _ _ _ h => h) (Or.inl ⟨by rfl, fun wz hz => by obtain ⟨_, _, _⟩ := hz; go_simp; try rfl⟩) (by assumption) ?_
    simp only [Act.put, List.setIfInBounds_toArray, List.set_cons_zero, List.set_cons_succ]
    refine wpAnyH_ready (rs := [2]) (by kernel_rfl) (by simp) ?_
    refine AllReadyH.cons (o := { dst := some 33, op := .call { callee := .value (.func 84), args := #[.tmp 32], argTypes := #[91] }, type := 4, pos := "history.go:143", after := #[{ on := 1, ground := .data }], guard := none }) rfl (fun K hK => ?_) AllReadyH.nil
    go_simp
    go_at_call 84
    refine (unhide CR _).mono ?_
    rintro e w5 ⟨rfl, hb5⟩
    have e0 := f0.drew.drew.below hb5 (show w.heap.size < W0.drew.drew.heap.size by show w.heap.size < W0.heap.size; omega)
    have e1 := f1.drew.drew.below hb5 (show w.heap.size + 1 < W0.drew.drew.heap.size by show w.heap.size + 1 < W0.heap.size; omega)
    have hbw5 := HB0.out.drew.trans (hb5.mono HB0.out.drew.size)
    have hc5 : (fun w' => w'.cell? ⟨w.heap.size + 1, 0, none⟩ = some (.int .i64 B) ∧ w'.cell? ⟨w.heap.size + 1, 1, none⟩ = some (.int .i64 A) ∧ w'.cell? ⟨w.heap.size + 1, 2, none⟩ = some (.int .i64 0)) w5 := ⟨e1.cellS rfl, e1.cellS rfl, e1.cellS rfl⟩
    refine hK.out _ _ hc5 (fun hHeld5 => ?_)
    clear hK K hc hHeld hb5 CR
    refine wpAnyH_takeR 3 (some 34) (.bool true) rfl rfl (by kernel_rfl) (by kernel_rfl) (by kernel_rfl) (fun _ _ _ h => h) (Or.inl ⟨by rfl, fun _ _ => by go_simp; try rfl⟩) (by assumption) ?_
    refine wpAnyH_takeR 4 (some 35) (.agg #[.int .i64 B, .int .i64 A, .int .i64 0]) rfl rfl (by kernel_rfl) (by kernel_rfl) (by kernel_rfl) (fun _ _ _ h => h) (Or.inl ⟨by rfl, fun wz hz => by obtain ⟨_, _, _⟩ := hz; go_simp; try rfl⟩) (by assumption) ?_
    refine wpAnyH_takeR 6 (some 37) (.string ⟨#[a, b]⟩) rfl rfl (by kernel_rfl) (by kernel_rfl) (by kernel_rfl) (fun _ _ _ h => h) (Or.inl ⟨by rfl, fun _ _ => by go_simp; try rfl⟩) (by assumption) ?_
    simp only [Act.put, List.setIfInBounds_toArray, List.set_cons_zero, List.set_cons_succ]
    refine wpAnyH_ready (rs := [5]) (by kernel_rfl) (by simp) ?_
    refine AllReadyH.cons (o := { dst := some 36, op := .call { callee := .value (.func 85), args := #[.tmp 35], argTypes := #[91] }, type := 9, pos := "history.go:143", after := #[{ on := 4, ground := .data }, { on := 3, ground := .chain }, { on := 3, ground := .guard }], guard := some (3, true) }) rfl (fun K hK => ?_) AllReadyH.nil
    go_simp
    go_at_call 85
    refine (unhide CT2 _).mono ?_
    rintro e w7 ⟨rfl, hb7⟩
    have e0' := e0.below hb7 (by have := hbw5.size; have := e0.lt; omega)
    have e1' := e1.below hb7 (by have := e1.lt; omega)
    have hbw7 := hbw5.trans (hb7.mono hbw5.size)
    have hc7 : (fun w' => w'.cell? ⟨w.heap.size + 1, 0, none⟩ = some (.int .i64 B) ∧ w'.cell? ⟨w.heap.size + 1, 1, none⟩ = some (.int .i64 A) ∧ w'.cell? ⟨w.heap.size + 1, 2, none⟩ = some (.int .i64 0)) w7 := ⟨e1'.cellS rfl, e1'.cellS rfl, e1'.cellS rfl⟩
    refine hK.out _ _ hc7 (fun hHeld7 => ?_)
    clear hK K hc5 hHeld5 hb7 CT CT2 e0 e1 hbw5
    have e0 := e0'
    have e1 := e1'
    have hbw5 := hbw7
    clear e0' e1' hbw7
    refine wpAnyH_takeR 7 (some 38) (.bool (textL ⟨B, A, 0⟩ == [a, b])) rfl rfl (by kernel_rfl) (by kernel_rfl) (by kernel_rfl) (fun _ _ _ h => h) (Or.inl ⟨by rfl, fun _ _ => by go_simp; try rfl⟩) (by assumption) ?_
    refine wpAnyH_takeR 8 (some 39) (.bool (textL ⟨B, A, 0⟩ == [a, b])) rfl rfl (by kernel_rfl) (by kernel_rfl) (by kernel_rfl) (fun _ _ _ h => h) (Or.inl ⟨by rfl, fun _ _ => by go_simp; try rfl⟩) (by assumption) ?_
    simp only [Act.put, List.setIfInBounds_toArray, List.set_cons_zero, List.set_cons_succ]
    refine wpAnyH_ready (rs := [9]) (by kernel_rfl) (by simp) ?_
    refine AllReadyH.cons (o := { dst := none, op := .store 91 (.tmp 2) (.tmp 31), type := 0, pos := "history.go:143", after := #[{ on := 0, ground := .data }, { on := 5, ground := .chain }, { on := 0, ground := .phase }, { on := 1, ground := .textOnly .lateStores }, { on := 2, ground := .textOnly .lateStoresUnsure }, { on := 3, ground := .textOnly .lateStores }, { on := 4, ground := .textOnly .lateStores }, { on := 5, ground := .textOnly .lateStoresUnsure }, { on := 6, ground := .textOnly .lateStores }, { on := 7, ground := .textOnly .lateStores }, { on := 8, ground := .textOnly .lateStores }], guard := none }) rfl (fun K hK => ?_) AllReadyH.nil
    have k0 := e0.cellS (i := 0) (v := .int .i64 0) rfl
    have k1 := e0.cellS (i := 1) (v := .int .i64 0) rfl
    have k2 := e0.cellS (i := 2) (v := .int .i64 0) rfl
    have l0 := e0.frozen 0
    have l1 := e0.frozen 1
    have l2 := e0.frozen 2
    go_simp
    have E6 := ((e0.put 0 (.int .i64 B)).put 1 (.int .i64 A)).put 2 (.int .i64 0)
    have F6 := ((e1.far (p := ⟨w.heap.size, 0, none⟩) (by show w.heap.size + 1 ≠ w.heap.size; omega) (.int .i64 B)).far (p := ⟨w.heap.size, 1, none⟩) (by show w.heap.size + 1 ≠ w.heap.size; omega) (.int .i64 A)).far (p := ⟨w.heap.size, 2, none⟩) (by show w.heap.size + 1 ≠ w.heap.size; omega) (.int .i64 0)
    have hb6 := ((hbw5.setCell (p := ⟨w.heap.size, 0, none⟩) (Nat.le_refl _) (.int .i64 B)).setCell (p := ⟨w.heap.size, 1, none⟩) (Nat.le_refl _) (.int .i64 A)).setCell (p := ⟨w.heap.size, 2, none⟩) (Nat.le_refl _) (.int .i64 0)
    have hc6 : (fun w' => w'.cell? ⟨w.heap.size + 1, 0, none⟩ = some (.int .i64 B) ∧ w'.cell? ⟨w.heap.size + 1, 1, none⟩ = some (.int .i64 A) ∧ w'.cell? ⟨w.heap.size + 1, 2, none⟩ = some (.int .i64 0)) (((w7.setCell ⟨w.heap.size, 0, none⟩ (.int .i64 B)).setCell ⟨w.heap.size, 1, none⟩ (.int .i64 A)).setCell ⟨w.heap.size, 2, none⟩ (.int .i64 0)) := ⟨F6.cellS rfl, F6.cellS rfl, F6.cellS rfl⟩
    have q0 := E6.cellS (i := 0) (v := .int .i64 B) rfl
    have q1 := E6.cellS (i := 1) (v := .int .i64 A) rfl
    have q2 := E6.cellS (i := 2) (v := .int .i64 0) rfl
    refine hK.out _ _ hc6 (fun hHeld6 => ?_)
    clear hK K k0 k1 k2 l0 l1 l2
    obtain ⟨w6, hw6⟩ : ∃ w6, ((w7.setCell ⟨w.heap.size, 0, none⟩ (.int .i64 B)).setCell ⟨w.heap.size, 1, none⟩ (.int .i64 A)).setCell ⟨w.heap.size, 2, none⟩ (.int .i64 0) = w6 := ⟨_, rfl⟩
    rw [hw6] at q0 q1 q2 hb6 hc6 hHeld6 ⊢
    refine wpAnyH_takeR 10 (some 3) (.bool (textL ⟨B, A, 0⟩ == [a, b])) rfl rfl (by kernel_rfl) (by kernel_rfl) (by kernel_rfl) (fun _ _ _ h => h) (Or.inl ⟨by rfl, fun _ _ => by go_simp; try rfl⟩) (by assumption) ?_
    simp only [Act.put, List.setIfInBounds_toArray, List.set_cons_zero, List.set_cons_succ]
    refine wpAnyH_done (by kernel_rfl) ?_ _
    go_wp2
    refine bodyPost_ret (by rw [results_cell_tmp rfl]; go_simp; try rfl) rfl ?_
    exact ⟨⟨B, A, 0⟩, by rw [HI.out]; rw [← HBQ.out]; rfl, HO.out, hb6⟩
set_option maxRecDepth 100000 in
set_option maxHeartbeats 4000000 in
theorem read_five (a b c d f : UInt8) (w : World) : Calls Tryz.prog 45 #[.string ⟨#[a, b, c, d, f]⟩] w (RdPost [a, b, c, d, f] w) := by
  have x1 : (ByteArray.mk #[a, b, c, d, f]).extract 0 1 = ⟨#[a]⟩ := by apply ByteArray.ext; simp
  have x2 : (ByteArray.mk #[a, b, c, d, f]).extract 1 2 = ⟨#[b]⟩ := by apply ByteArray.ext; simp
  have x3 : (ByteArray.mk #[a, b, c, d, f]).extract 3 4 = ⟨#[d]⟩ := by apply ByteArray.ext; simp
  have I1 := hide (fun W => idx_any [114, 119, 99, 97] a W)
  have I2 := hide (fun W => idx_any [49, 50, 51, 52, 53, 54] b W)
  have I3 := hide (fun W => idx_any [97, 98, 99, 100, 101, 102] d W)
  obtain ⟨a0, a6⟩ := plB_rng [114, 119, 99, 97] a (by decide)
  obtain ⟨b0, b6⟩ := plB_rng [49, 50, 51, 52, 53, 54] b (by decide)
  obtain ⟨d0, d6⟩ := plB_rng [97, 98, 99, 100, 101, 102] d (by decide)
  have HO : Hid (∀ p, wordF [a, b, c, d, f] = some p → p = ⟨plB [49, 50, 51, 52, 53, 54] b, plB [114, 119, 99, 97] a, plB [97, 98, 99, 100, 101, 102] d⟩) := Lib.hid (fun p hp => word5 hp)
  generalize plB [114, 119, 99, 97] a = A at *
  generalize plB [49, 50, 51, 52, 53, 54] b = B at *
  generalize plB [97, 98, 99, 100, 101, 102] d = D at *
  have HI := Lib.hid (word_is (s := [a, b, c, d, f]) (o := ⟨B, A, D⟩) HO.out)
  have HBQ : Hid ((textL ⟨B, A, D⟩ == [a, b, c, d, f]) = decide (textL ⟨B, A, D⟩ = [a, b, c, d, f])) := Lib.hid (by rw [Bool.eq_iff_iff]; simp)
  have CR := hide (fun W => right_any ⟨B, A, D⟩ W)
  have CT := hide (fun hr W => text_any ⟨B, A, D⟩ hr W)
  unfold HOp.val at CR CT
  have hA : IntKind.i64.wrap A = A := wrap64 (by omega) (by omega)
  have hB : IntKind.i64.wrap B = B := wrap64 (by omega) (by omega)
  have hD : IntKind.i64.wrap D = D := wrap64 (by omega) (by omega)
  have HB0 : Hid (Below w.heap.size w (((w.alloc (.cells #[.int .i64 0, .int .i64 0, .int .i64 0] 91)).alloc (.cells #[.int .i64 B, .int .i64 A, .int .i64 D] 91)).drew)) := Lib.hid ((((Below.refl _ _).alloc (Nat.le_refl _) _).alloc (by simp) _).drew)
  obtain ⟨W0, hW0⟩ : ∃ W0, W0 = ((w.alloc (.cells #[.int .i64 0, .int .i64 0, .int .i64 0] 91)).alloc (.cells #[.int .i64 B, .int .i64 A, .int .i64 D] 91)) := ⟨_, rfl⟩
  have HW0 := Lib.hid hW0
  have hz : W0.heap.size = w.heap.size + 2 := by rw [hW0]; simp
  have f0 : Blk W0 w.heap.size 91 [.int .i64 0, .int .i64 0, .int .i64 0] := by rw [hW0]; exact (Blk.new w 91 [.int .i64 0, .int .i64 0, .int .i64 0]).alloc _
  have f1 : Blk W0 (w.heap.size + 1) 91 [.int .i64 B, .int .i64 A, .int .i64 D] := by rw [hW0]; have := Blk.new (w.alloc (.cells #[.int .i64 0, .int .i64 0, .int .i64 0] 91)) 91 [.int .i64 B, .int .i64 A, .int .i64 D]; simpa using this
  have HF := Lib.hid (And.intro f0 (And.intro f1 hz))
  clear f0 f1 hz hW0
  obtain ⟨W1, hW1⟩ : ∃ W1, W1 = ((w.alloc (.cells #[.int .i64 0, .int .i64 0, .int .i64 0] 91)).alloc (.cells #[.int .i64 B, .int .i64 A, .int .i64 0] 91)) := ⟨_, rfl⟩
  have HW1 := Lib.hid hW1
  clear hW1
  go_enter Tryz.func45, Tryz.ntmps45
  go_upto_region 6 with fail
  go_cut [4] (fun s4 wx => s4 = .pointer (some ⟨w.heap.size + 1, 0, none⟩) ∧ W1.drew = wx)
  case first =>
    go_wp2
    go_region_held3 (fun _ => True) (trivial) (first
      | (go_at_call 83; refine (unhide I1 _).mono ?_; rintro e w1 ⟨rfl, rfl⟩)
      | (go_at_call 83; refine (unhide I2 _).mono ?_; rintro e w1 ⟨rfl, rfl⟩))
    all_goals
      go_wp2
      go_meet
      case rel => exact ⟨rfl, by rw [HW1.out]⟩
  case rest =>
  obtain ⟨rfl, hwx⟩ := hcut
  subst hwx
  obtain ⟨f0, f1, hz⟩ := HF.out
  rw [← HW0.out] at HB0
  rw [HW1.out]
  go_wp2_with (go_at_call 83; refine (unhide I3 _).mono ?_; rintro e w1 ⟨rfl, rfl⟩)
  rw [← HW0.out]
  have g0 := f1.cellS (i := 0) (v := .int .i64 B) rfl
  have g1 := f1.cellS (i := 1) (v := .int .i64 A) rfl
  have g2 := f1.cellS (i := 2) (v := .int .i64 D) rfl
  have hc : (fun w' => w'.cell? ⟨w.heap.size + 1, 0, none⟩ = some (.int .i64 B) ∧ w'.cell? ⟨w.heap.size + 1, 1, none⟩ = some (.int .i64 A) ∧ w'.cell? ⟨w.heap.size + 1, 2, none⟩ = some (.int .i64 D)) W0.drew := ⟨g0, g1, g2⟩
  clear x1 x2 x3 I1 I2 I3 HW0 HF
  cases hR : rightB ⟨B, A, D⟩
  · rw [hR] at CR HI
    rw [Bool.false_and] at HI
    refine wp_region_held_drew (S := (fun w' => w'.cell? ⟨w.heap.size + 1, 0, none⟩ = some (.int .i64 B) ∧ w'.cell? ⟨w.heap.size + 1, 1, none⟩ = some (.int .i64 A) ∧ w'.cell? ⟨w.heap.size + 1, 2, none⟩ = some (.int .i64 D))) (by kernel_rfl) hc (fun hHeld => ?_)
    refine wpAnyH_takeR 0 (some 31) (.agg #[.int .i64 B, .int .i64 A, .int .i64 D]) rfl rfl (by kernel_rfl) (by kernel_rfl) (by kernel_rfl) (fun _ _ _ h => h) (Or.inl ⟨by rfl, fun wz hz => by obtain ⟨_, _, _⟩ := hz; go_simp; try rfl⟩) (by assumption) ?_
    refine wpAnyH_takeR 1 (some 32) (.agg #[.int .i64 B, .int .i64 A, .int .i64 D]) rfl rfl (by kernel_rfl) (by kernel_rfl) (by kernel_rfl) (fun _ _ _ h => h) (Or.inl ⟨by rfl, fun wz hz => by obtain ⟨_, _, _⟩ := hz; go_simp; try rfl⟩) (by assumption) ?_
    simp only [Act.put, List.setIfInBounds_toArray, List.set_cons_zero, List.set_cons_succ]
    refine wpAnyH_ready (rs := [2]) (by kernel_rfl) (by simp) ?_
    refine AllReadyH.cons (o := { dst := some 33, op := .call { callee := .value (.func 84), args := #[.tmp 32], argTypes := #[91] }, type := 4, pos := "history.go:143", after := #[{ on := 1, ground := .data }], guard := none }) rfl (fun K hK => ?_) AllReadyH.nil
    go_simp
    go_at_call 84
    refine (unhide CR _).mono ?_
    rintro e w5 ⟨rfl, hb5⟩
    have e0 := f0.drew.drew.below hb5 (show w.heap.size < W0.drew.drew.heap.size by show w.heap.size < W0.heap.size; omega)
    have e1 := f1.drew.drew.below hb5 (show w.heap.size + 1 < W0.drew.drew.heap.size by show w.heap.size + 1 < W0.heap.size; omega)
    have hbw5 := HB0.out.drew.trans (hb5.mono HB0.out.drew.size)
    have hc5 : (fun w' => w'.cell? ⟨w.heap.size + 1, 0, none⟩ = some (.int .i64 B) ∧ w'.cell? ⟨w.heap.size + 1, 1, none⟩ = some (.int .i64 A) ∧ w'.cell? ⟨w.heap.size + 1, 2, none⟩ = some (.int .i64 D)) w5 := ⟨e1.cellS rfl, e1.cellS rfl, e1.cellS rfl⟩
    refine hK.out _ _ hc5 (fun hHeld5 => ?_)
    clear hK K hc hHeld hb5 CR
    refine wpAnyH_takeR 3 (some 34) (.bool false) rfl rfl (by kernel_rfl) (by kernel_rfl) (by kernel_rfl) (fun _ _ _ h => h) (Or.inl ⟨by rfl, fun _ _ => by go_simp; try rfl⟩) (by assumption) ?_
    refine wpAnyH_takeR 4 (some 35) (undef) rfl rfl (by kernel_rfl) (by kernel_rfl) (by kernel_rfl) (fun _ _ _ h => h) (Or.inr ⟨by rfl, rfl⟩) (by assumption) ?_
    refine wpAnyH_takeR 5 (some 36) (undef) rfl rfl (by kernel_rfl) (by kernel_rfl) (by kernel_rfl) (fun _ _ _ h => h) (Or.inr ⟨by rfl, rfl⟩) (by assumption) ?_
    refine wpAnyH_takeR 6 (some 37) (undef) rfl rfl (by kernel_rfl) (by kernel_rfl) (by kernel_rfl) (fun _ _ _ h => h) (Or.inr ⟨by rfl, rfl⟩) (by assumption) ?_
    refine wpAnyH_takeR 7 (some 38) (undef) rfl rfl (by kernel_rfl) (by kernel_rfl) (by kernel_rfl) (fun _ _ _ h => h) (Or.inr ⟨by rfl, rfl⟩) (by assumption) ?_
    refine wpAnyH_takeR 8 (some 39) (.bool false) rfl rfl (by kernel_rfl) (by kernel_rfl) (by kernel_rfl) (fun _ _ _ h => h) (Or.inl ⟨by rfl, fun _ _ => by go_simp; try rfl⟩) (by assumption) ?_
    simp only [Act.put, List.setIfInBounds_toArray, List.set_cons_zero, List.set_cons_succ]
    refine wpAnyH_ready (rs := [9]) (by kernel_rfl) (by simp) ?_
    refine AllReadyH.cons (o := { dst := none, op := .store 91 (.tmp 2) (.tmp 31), type := 0, pos := "history.go:143", after := #[{ on := 0, ground := .data }, { on := 5, ground := .chain }, { on := 0, ground := .phase }, { on := 1, ground := .textOnly .lateStores }, { on := 2, ground := .textOnly .lateStoresUnsure }, { on := 3, ground := .textOnly .lateStores }, { on := 4, ground := .textOnly .lateStores }, { on := 5, ground := .textOnly .lateStoresUnsure }, { on := 6, ground := .textOnly .lateStores }, { on := 7, ground := .textOnly .lateStores }, { on := 8, ground := .textOnly .lateStores }], guard := none }) rfl (fun K hK => ?_) AllReadyH.nil
    have k0 := e0.cellS (i := 0) (v := .int .i64 0) rfl
    have k1 := e0.cellS (i := 1) (v := .int .i64 0) rfl
    have k2 := e0.cellS (i := 2) (v := .int .i64 0) rfl
    have l0 := e0.frozen 0
    have l1 := e0.frozen 1
    have l2 := e0.frozen 2
    go_simp
    have E6 := ((e0.put 0 (.int .i64 B)).put 1 (.int .i64 A)).put 2 (.int .i64 D)
    have F6 := ((e1.far (p := ⟨w.heap.size, 0, none⟩) (by show w.heap.size + 1 ≠ w.heap.size; omega) (.int .i64 B)).far (p := ⟨w.heap.size, 1, none⟩) (by show w.heap.size + 1 ≠ w.heap.size; omega) (.int .i64 A)).far (p := ⟨w.heap.size, 2, none⟩) (by show w.heap.size + 1 ≠ w.heap.size; omega) (.int .i64 D)
    have hb6 := ((hbw5.setCell (p := ⟨w.heap.size, 0, none⟩) (Nat.le_refl _) (.int .i64 B)).setCell (p := ⟨w.heap.size, 1, none⟩) (Nat.le_refl _) (.int .i64 A)).setCell (p := ⟨w.heap.size, 2, none⟩) (Nat.le_refl _) (.int .i64 D)
    have hc6 : (fun w' => w'.cell? ⟨w.heap.size + 1, 0, none⟩ = some (.int .i64 B) ∧ w'.cell? ⟨w.heap.size + 1, 1, none⟩ = some (.int .i64 A) ∧ w'.cell? ⟨w.heap.size + 1, 2, none⟩ = some (.int .i64 D)) (((w5.setCell ⟨w.heap.size, 0, none⟩ (.int .i64 B)).setCell ⟨w.heap.size, 1, none⟩ (.int .i64 A)).setCell ⟨w.heap.size, 2, none⟩ (.int .i64 D)) := ⟨F6.cellS rfl, F6.cellS rfl, F6.cellS rfl⟩
    have q0 := E6.cellS (i := 0) (v := .int .i64 B) rfl
    have q1 := E6.cellS (i := 1) (v := .int .i64 A) rfl
    have q2 := E6.cellS (i := 2) (v := .int .i64 D) rfl
    refine hK.out _ _ hc6 (fun hHeld6 => ?_)
    clear hK K k0 k1 k2 l0 l1 l2
    obtain ⟨w6, hw6⟩ : ∃ w6, ((w5.setCell ⟨w.heap.size, 0, none⟩ (.int .i64 B)).setCell ⟨w.heap.size, 1, none⟩ (.int .i64 A)).setCell ⟨w.heap.size, 2, none⟩ (.int .i64 D) = w6 := ⟨_, rfl⟩
    rw [hw6] at q0 q1 q2 hb6 hc6 hHeld6 ⊢
    refine wpAnyH_takeR 10 (some 3) (.bool false) rfl rfl (by kernel_rfl) (by kernel_rfl) (by kernel_rfl) (fun _ _ _ h => h) (Or.inl ⟨by rfl, fun _ _ => by go_simp; try rfl⟩) (by assumption) ?_
    simp only [Act.put, List.setIfInBounds_toArray, List.set_cons_zero, List.set_cons_succ]
    refine wpAnyH_done (by kernel_rfl) ?_ _
    go_wp2
    refine bodyPost_ret (by rw [results_cell_tmp rfl]; go_simp; try rfl) rfl ?_
    exact ⟨⟨B, A, D⟩, by rw [HI.out]; rfl, HO.out, hb6⟩
  · rw [hR] at CR HI
    rw [Bool.true_and] at HI
    have CT2 := hide (unhide CT hR)
    refine wp_region_held_drew (S := (fun w' => w'.cell? ⟨w.heap.size + 1, 0, none⟩ = some (.int .i64 B) ∧ w'.cell? ⟨w.heap.size + 1, 1, none⟩ = some (.int .i64 A) ∧ w'.cell? ⟨w.heap.size + 1, 2, none⟩ = some (.int .i64 D))) (by kernel_rfl) hc (fun hHeld => ?_)
    refine wpAnyH_takeR 0 (some 31) (.agg #[.int .i64 B, .int .i64 A, .int .i64 D]) rfl rfl (by kernel_rfl) (by kernel_rfl) (by kernel_rfl) (fun _ _ _ h => h) (Or.inl ⟨by rfl, fun wz hz => by obtain ⟨_, _, _⟩ := hz; go_simp; try rfl⟩) (by assumption) ?_
    refine wpAnyH_takeR 1 (some 32) (.agg #[.int .i64 B, .int .i64 A, .int .i64 D]) rfl rfl (by kernel_rfl) (by kernel_rfl) (by kernel_rfl) (fun _ _ _ h => h) (Or.inl ⟨by rfl, fun wz hz => by obtain ⟨_, _, _⟩ := hz; go_simp; try rfl⟩) (by assumption) ?_
    simp only [Act.put, List.setIfInBounds_toArray, List.set_cons_zero, List.set_cons_succ]
    refine wpAnyH_ready (rs := [2]) (by kernel_rfl) (by simp) ?_
    refine AllReadyH.cons (o := { dst := some 33, op := .call { callee := .value (.func 84), args := #[.tmp 32], argTypes := #[91] }, type := 4, pos := "history.go:143", after := #[{ on := 1, ground := .data }], guard := none }) rfl (fun K hK => ?_) AllReadyH.nil
    go_simp
    go_at_call 84
    refine (unhide CR _).mono ?_
    rintro e w5 ⟨rfl, hb5⟩
    have e0 := f0.drew.drew.below hb5 (show w.heap.size < W0.drew.drew.heap.size by show w.heap.size < W0.heap.size; omega)
    have e1 := f1.drew.drew.below hb5 (show w.heap.size + 1 < W0.drew.drew.heap.size by show w.heap.size + 1 < W0.heap.size; omega)
    have hbw5 := HB0.out.drew.trans (hb5.mono HB0.out.drew.size)
    have hc5 : (fun w' => w'.cell? ⟨w.heap.size + 1, 0, none⟩ = some (.int .i64 B) ∧ w'.cell? ⟨w.heap.size + 1, 1, none⟩ = some (.int .i64 A) ∧ w'.cell? ⟨w.heap.size + 1, 2, none⟩ = some (.int .i64 D)) w5 := ⟨e1.cellS rfl, e1.cellS rfl, e1.cellS rfl⟩
    refine hK.out _ _ hc5 (fun hHeld5 => ?_)
    clear hK K hc hHeld hb5 CR
    refine wpAnyH_takeR 3 (some 34) (.bool true) rfl rfl (by kernel_rfl) (by kernel_rfl) (by kernel_rfl) (fun _ _ _ h => h) (Or.inl ⟨by rfl, fun _ _ => by go_simp; try rfl⟩) (by assumption) ?_
    refine wpAnyH_takeR 4 (some 35) (.agg #[.int .i64 B, .int .i64 A, .int .i64 D]) rfl rfl (by kernel_rfl) (by kernel_rfl) (by kernel_rfl) (fun _ _ _ h => h) (Or.inl ⟨by rfl, fun wz hz => by obtain ⟨_, _, _⟩ := hz; go_simp; try rfl⟩) (by assumption) ?_
    refine wpAnyH_takeR 6 (some 37) (.string ⟨#[a, b, c, d, f]⟩) rfl rfl (by kernel_rfl) (by kernel_rfl) (by kernel_rfl) (fun _ _ _ h => h) (Or.inl ⟨by rfl, fun _ _ => by go_simp; try rfl⟩) (by assumption) ?_
    simp only [Act.put, List.setIfInBounds_toArray, List.set_cons_zero, List.set_cons_succ]
    refine wpAnyH_ready (rs := [5]) (by kernel_rfl) (by simp) ?_
    refine AllReadyH.cons (o := { dst := some 36, op := .call { callee := .value (.func 85), args := #[.tmp 35], argTypes := #[91] }, type := 9, pos := "history.go:143", after := #[{ on := 4, ground := .data }, { on := 3, ground := .chain }, { on := 3, ground := .guard }], guard := some (3, true) }) rfl (fun K hK => ?_) AllReadyH.nil
    go_simp
    go_at_call 85
    refine (unhide CT2 _).mono ?_
    rintro e w7 ⟨rfl, hb7⟩
    have e0' := e0.below hb7 (by have := hbw5.size; have := e0.lt; omega)
    have e1' := e1.below hb7 (by have := e1.lt; omega)
    have hbw7 := hbw5.trans (hb7.mono hbw5.size)
    have hc7 : (fun w' => w'.cell? ⟨w.heap.size + 1, 0, none⟩ = some (.int .i64 B) ∧ w'.cell? ⟨w.heap.size + 1, 1, none⟩ = some (.int .i64 A) ∧ w'.cell? ⟨w.heap.size + 1, 2, none⟩ = some (.int .i64 D)) w7 := ⟨e1'.cellS rfl, e1'.cellS rfl, e1'.cellS rfl⟩
    refine hK.out _ _ hc7 (fun hHeld7 => ?_)
    clear hK K hc5 hHeld5 hb7 CT CT2 e0 e1 hbw5
    have e0 := e0'
    have e1 := e1'
    have hbw5 := hbw7
    clear e0' e1' hbw7
    refine wpAnyH_takeR 7 (some 38) (.bool (textL ⟨B, A, D⟩ == [a, b, c, d, f])) rfl rfl (by kernel_rfl) (by kernel_rfl) (by kernel_rfl) (fun _ _ _ h => h) (Or.inl ⟨by rfl, fun _ _ => by go_simp; try rfl⟩) (by assumption) ?_
    refine wpAnyH_takeR 8 (some 39) (.bool (textL ⟨B, A, D⟩ == [a, b, c, d, f])) rfl rfl (by kernel_rfl) (by kernel_rfl) (by kernel_rfl) (fun _ _ _ h => h) (Or.inl ⟨by rfl, fun _ _ => by go_simp; try rfl⟩) (by assumption) ?_
    simp only [Act.put, List.setIfInBounds_toArray, List.set_cons_zero, List.set_cons_succ]
    refine wpAnyH_ready (rs := [9]) (by kernel_rfl) (by simp) ?_
    refine AllReadyH.cons (o := { dst := none, op := .store 91 (.tmp 2) (.tmp 31), type := 0, pos := "history.go:143", after := #[{ on := 0, ground := .data }, { on := 5, ground := .chain }, { on := 0, ground := .phase }, { on := 1, ground := .textOnly .lateStores }, { on := 2, ground := .textOnly .lateStoresUnsure }, { on := 3, ground := .textOnly .lateStores }, { on := 4, ground := .textOnly .lateStores }, { on := 5, ground := .textOnly .lateStoresUnsure }, { on := 6, ground := .textOnly .lateStores }, { on := 7, ground := .textOnly .lateStores }, { on := 8, ground := .textOnly .lateStores }], guard := none }) rfl (fun K hK => ?_) AllReadyH.nil
    have k0 := e0.cellS (i := 0) (v := .int .i64 0) rfl
    have k1 := e0.cellS (i := 1) (v := .int .i64 0) rfl
    have k2 := e0.cellS (i := 2) (v := .int .i64 0) rfl
    have l0 := e0.frozen 0
    have l1 := e0.frozen 1
    have l2 := e0.frozen 2
    go_simp
    have E6 := ((e0.put 0 (.int .i64 B)).put 1 (.int .i64 A)).put 2 (.int .i64 D)
    have F6 := ((e1.far (p := ⟨w.heap.size, 0, none⟩) (by show w.heap.size + 1 ≠ w.heap.size; omega) (.int .i64 B)).far (p := ⟨w.heap.size, 1, none⟩) (by show w.heap.size + 1 ≠ w.heap.size; omega) (.int .i64 A)).far (p := ⟨w.heap.size, 2, none⟩) (by show w.heap.size + 1 ≠ w.heap.size; omega) (.int .i64 D)
    have hb6 := ((hbw5.setCell (p := ⟨w.heap.size, 0, none⟩) (Nat.le_refl _) (.int .i64 B)).setCell (p := ⟨w.heap.size, 1, none⟩) (Nat.le_refl _) (.int .i64 A)).setCell (p := ⟨w.heap.size, 2, none⟩) (Nat.le_refl _) (.int .i64 D)
    have hc6 : (fun w' => w'.cell? ⟨w.heap.size + 1, 0, none⟩ = some (.int .i64 B) ∧ w'.cell? ⟨w.heap.size + 1, 1, none⟩ = some (.int .i64 A) ∧ w'.cell? ⟨w.heap.size + 1, 2, none⟩ = some (.int .i64 D)) (((w7.setCell ⟨w.heap.size, 0, none⟩ (.int .i64 B)).setCell ⟨w.heap.size, 1, none⟩ (.int .i64 A)).setCell ⟨w.heap.size, 2, none⟩ (.int .i64 D)) := ⟨F6.cellS rfl, F6.cellS rfl, F6.cellS rfl⟩
    have q0 := E6.cellS (i := 0) (v := .int .i64 B) rfl
    have q1 := E6.cellS (i := 1) (v := .int .i64 A) rfl
    have q2 := E6.cellS (i := 2) (v := .int .i64 D) rfl
    refine hK.out _ _ hc6 (fun hHeld6 => ?_)
    clear hK K k0 k1 k2 l0 l1 l2
    obtain ⟨w6, hw6⟩ : ∃ w6, ((w7.setCell ⟨w.heap.size, 0, none⟩ (.int .i64 B)).setCell ⟨w.heap.size, 1, none⟩ (.int .i64 A)).setCell ⟨w.heap.size, 2, none⟩ (.int .i64 D) = w6 := ⟨_, rfl⟩
    rw [hw6] at q0 q1 q2 hb6 hc6 hHeld6 ⊢
    refine wpAnyH_takeR 10 (some 3) (.bool (textL ⟨B, A, D⟩ == [a, b, c, d, f])) rfl rfl (by kernel_rfl) (by kernel_rfl) (by kernel_rfl) (fun _ _ _ h => h) (Or.inl ⟨by rfl, fun _ _ => by go_simp; try rfl⟩) (by assumption) ?_
    simp only [Act.put, List.setIfInBounds_toArray, List.set_cons_zero, List.set_cons_succ]
    refine wpAnyH_done (by kernel_rfl) ?_ _
    go_wp2
    refine bodyPost_ret (by rw [results_cell_tmp rfl]; go_simp; try rfl) rfl ?_
    exact ⟨⟨B, A, D⟩, by rw [HI.out]; rw [← HBQ.out]; rfl, HO.out, hb6⟩
/-- The op that a word is. -/
theorem read_any (s : List UInt8) (w : World) : Calls Tryz.prog 45 #[.string ⟨s.toArray⟩] w (RdPost s w) := by
  match s with
  | [] => exact read_not _ w (by simp) (by simp)
  | [_] => exact read_not _ w (by simp) (by simp)
  | [a, b] => exact read_two a b w
  | [_, _, _] => exact read_not _ w (by simp) (by simp)
  | [_, _, _, _] => exact read_not _ w (by simp) (by simp)
  | [a, b, c, d, f] => exact read_five a b c d f w
  | _ :: _ :: _ :: _ :: _ :: _ :: _ => exact read_not _ w (by simp) (by simp)
end Go.Proofs.YtaaahfbcpgdoiaaGreatDoor
