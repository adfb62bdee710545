
/-
  CONTRACTS of history.Tx, Item, Ends, right: each returns what the plain function of its name computes.
  WORDS of the walks: a slice that reads as a list of ops, of numbers; lists in rounds.
  CONTRACTS of history.Check, Right.
-/
import Derived.Test.YtcdinhmdeaplgaaGreatDoorRows
import Derived.WalkKit
import Derived.WalkSpells
import Derived.WalkLawsBesides
import Derived.Lib.Hide
import Derived.Handy
import Derived.Deep.RegionHeld3
import Derived.Deep.LoopGhost

namespace Go.Proofs.YtcdinhmdeaplgaaGreatDoor
open Go.RowKit

/-- An op of a history. -/
structure HOp where
  tx : Int
  what : Int
  item : Int
  deriving DecidableEq, Repr, Inhabited

def HOp.val (o : HOp) : Value := .agg #[.int .i64 o.tx, .int .i64 o.what, .int .i64 o.item]
def txB (n : Int) : Bool := decide (1 ≤ n ∧ n ≤ 6)
def endsB (o : HOp) : Bool := decide (o.what = 3 ∨ o.what = 4)
def rightB (o : HOp) : Bool := txB o.tx && decide (1 ≤ o.what ∧ o.what ≤ 4) && (if endsB o then decide (o.item = 0) else txB o.item)

theorem bcell {W w1 : World} (hb : Below W.heap.size W w1) : (∀ b o, b < W.heap.size → w1.cell? ⟨b, o, none⟩ = W.cell? ⟨b, o, none⟩) ∧ (∀ b o, b < W.heap.size → w1.frozen? ⟨b, o, none⟩ = W.frozen? ⟨b, o, none⟩) :=
  ⟨fun b o h => hb.cell (p := ⟨b, o, none⟩) h, fun b o h => hb.frozen (p := ⟨b, o, none⟩) h⟩

theorem tx_any (n : Int) (w : World) : Calls Tryz.prog 30 #[.int .i64 n] w fun e w' => e = .returned (.bool (txB n)) ∧ w = w' := by
  by_cases h1 : 1 ≤ n <;> by_cases h2 : n ≤ 6
  all_goals
    go_enter Tryz.func30, Tryz.ntmps30
    go_wp2
    go_ret
    exact ⟨by simp [txB]; omega, rfl⟩

theorem item_any (n : Int) (w : World) : Calls Tryz.prog 36 #[.int .i64 n] w fun e w' => e = .returned (.bool (txB n)) ∧ w = w' := by
  by_cases h1 : 1 ≤ n <;> by_cases h2 : n ≤ 6
  all_goals
    go_enter Tryz.func36, Tryz.ntmps36
    go_wp2
    go_ret
    exact ⟨by simp [txB]; omega, rfl⟩

theorem ends_any (o : HOp) (w : World) : Calls Tryz.prog 21 #[o.val] w fun e w' => e = .returned (.bool (endsB o)) ∧ Below w.heap.size w w' := by
  obtain ⟨tx, what, item⟩ := o
  unfold HOp.val
  by_cases h1 : what = 3
  · subst h1
    go_enter Tryz.func21, Tryz.ntmps21
    go_wp2
    go_ret
    exact ⟨by simp [endsB], (Below.refl _ _).alloc (Nat.le_refl _) _⟩
  · by_cases h2 : what = 4
    all_goals
      go_enter Tryz.func21, Tryz.ntmps21
      go_wp2
      go_ret
      exact ⟨by simp [endsB, h1, h2], (Below.refl _ _).alloc (Nat.le_refl _) _⟩

set_option maxHeartbeats 400000 in
theorem right_any (o : HOp) (w : World) : Calls Tryz.prog 20 #[o.val] w fun e w' => e = .returned (.bool (rightB o)) ∧ Below w.heap.size w w' := by
  obtain ⟨tx, what, item⟩ := o
  have E := ends_any ⟨tx, what, item⟩
  unfold HOp.val at E ⊢
  cases hT : txB tx
  · have hr : rightB ⟨tx, what, item⟩ = false := by simp [rightB, hT]
    rw [hr]
    go_enter Tryz.func20, Tryz.ntmps20
    go_wp2_with (go_at_call 30; refine (tx_any _ _).mono ?_; rintro e w' ⟨rfl, rfl⟩; rw [hT])
    go_ret
    exact ⟨rfl, (Below.refl _ _).alloc (Nat.le_refl _) _⟩
  by_cases h1 : what < 1
  · have hr : rightB ⟨tx, what, item⟩ = false := by simp [rightB]; omega
    rw [hr]
    go_enter Tryz.func20, Tryz.ntmps20
    go_wp2_with (go_at_call 30; refine (tx_any _ _).mono ?_; rintro e w' ⟨rfl, rfl⟩; rw [hT])
    go_ret
    exact ⟨rfl, (Below.refl _ _).alloc (Nat.le_refl _) _⟩
  by_cases h2 : 4 < what
  · have hr : rightB ⟨tx, what, item⟩ = false := by simp [rightB]; omega
    rw [hr]
    go_enter Tryz.func20, Tryz.ntmps20
    go_wp2_with (go_at_call 30; refine (tx_any _ _).mono ?_; rintro e w' ⟨rfl, rfl⟩; rw [hT])
    go_ret
    exact ⟨rfl, (Below.refl _ _).alloc (Nat.le_refl _) _⟩
  cases hE : endsB ⟨tx, what, item⟩
  · have hr : rightB ⟨tx, what, item⟩ = txB item := by simp [rightB, hT, hE]; omega
    rw [hr]
    go_enter Tryz.func20, Tryz.ntmps20
    go_wp2_with (first
      | (go_at_call 30; refine (tx_any _ _).mono ?_; rintro e w' ⟨rfl, rfl⟩; rw [hT])
      | (go_at_call 21; refine (E _).mono ?_; rintro e w1 ⟨rfl, hb⟩; rw [hE]; obtain ⟨hc, hf⟩ := bcell hb)
      | (go_at_call 36; refine (item_any _ _).mono ?_; rintro e w' ⟨rfl, rfl⟩))
    go_ret
    exact ⟨rfl, ((Below.refl _ _).alloc (Nat.le_refl _) _).trans (hb.mono (by simp))⟩
  · have hr : rightB ⟨tx, what, item⟩ = decide (item = 0) := by simp [rightB, hT, hE]; omega
    rw [hr]
    go_enter Tryz.func20, Tryz.ntmps20
    go_wp2_with (first
      | (go_at_call 30; refine (tx_any _ _).mono ?_; rintro e w' ⟨rfl, rfl⟩; rw [hT])
      | (go_at_call 21; refine (E _).mono ?_; rintro e w1 ⟨rfl, hb⟩; rw [hE]; obtain ⟨hc, hf⟩ := bcell hb))
    go_ret
    exact ⟨by simp; rfl, ((Below.refl _ _).alloc (Nat.le_refl _) _).trans (hb.mono (by simp))⟩
end Go.Proofs.YtcdinhmdeaplgaaGreatDoor


namespace Go.Proofs.YtcdinhmdeaplgaaGreatDoor
open Go.RowKit

theorem hide {p : Prop} (h : p) : Hid p := h
theorem unhide {p : Prop} (h : Hid p) : p := h
theorem set_same {α : Type} {l : List α} {i : Nat} {x : α} (h : l[i]? = some x) : l.set i x = l := by
  obtain ⟨h1, h2⟩ := List.getElem?_eq_some_iff.1 h
  subst h2
  exact List.set_getElem_self h1
theorem drop_at {α : Type} {l : List α} {k : Nat} {o : α} (h : l[k]? = some o) : l.drop k = o :: l.drop (k + 1) := by
  obtain ⟨hk, rfl⟩ := List.getElem?_eq_some_iff.1 h
  exact List.drop_eq_getElem_cons hk
theorem drop_end {α : Type} {l : List α} {k : Nat} (h : l.length ≤ k) : l.drop k = [] := List.drop_eq_nil_of_le h
theorem ret_int {k : IntKind} {a b : Int} (h : a = b) : Ending.returned (.int k a) = .returned (.int k b) := by rw [h]
theorem ret_bool {a b : Bool} (h : a = b) : Ending.returned (.bool a) = .returned (.bool b) := by rw [h]

theorem rightB_get {o : HOp} (h : rightB o = true) : 1 ≤ o.tx ∧ o.tx ≤ 6 ∧ 1 ≤ o.what ∧ o.what ≤ 4 ∧ (o.what < 3 → 1 ≤ o.item ∧ o.item ≤ 6) ∧ (3 ≤ o.what → o.item = 0) := by
  unfold rightB txB endsB at h
  simp only [Bool.and_eq_true, decide_eq_true_eq] at h
  obtain ⟨⟨h1, h2⟩, h3⟩ := h
  refine ⟨h1.1, h1.2, h2.1, h2.2, fun hw => ?_, fun hw => ?_⟩
  · rw [if_neg (by omega)] at h3; simpa using h3
  · rw [if_pos (by omega)] at h3; simpa using h3

/-- The cells of a list of ops; of numbers. -/
def cellsH (h : List HOp) : List Value := h.flatMap fun o => [.int .i64 o.tx, .int .i64 o.what, .int .i64 o.item]
def cellsI (l : List Int) : List Value := l.map (.int .i64)

theorem cellsH_length (h : List HOp) : (cellsH h).length = h.length * 3 := by
  induction h with
  | nil => rfl
  | cons o t ih =>
    have e : cellsH (o :: t) = [.int .i64 o.tx, .int .i64 o.what, .int .i64 o.item] ++ cellsH t := rfl
    rw [e, List.length_append, ih]; simp; omega
theorem cellsH_append (a b : List HOp) : cellsH (a ++ b) = cellsH a ++ cellsH b := by simp [cellsH]
theorem cellsH_at {h : List HOp} {k : Nat} {o : HOp} (hk : h[k]? = some o) : (cellsH h)[k * 3]? = some (.int .i64 o.tx) ∧ (cellsH h)[k * 3 + 1]? = some (.int .i64 o.what) ∧ (cellsH h)[k * 3 + 2]? = some (.int .i64 o.item) := by
  induction h generalizing k with
  | nil => simp at hk
  | cons p t ih =>
    have e : cellsH (p :: t) = [.int .i64 p.tx, .int .i64 p.what, .int .i64 p.item] ++ cellsH t := rfl
    cases k with
    | zero =>
      obtain rfl : p = o := by simpa using hk
      rw [e]; simp
    | succ k =>
      have hk' := ih (k := k) (by simpa using hk)
      rw [e]
      have e0 : (k + 1) * 3 = k * 3 + 3 := by omega
      rw [e0]
      refine ⟨?_, ?_, ?_⟩ <;> rw [List.getElem?_append_right (by simp)]
      · exact hk'.1
      · exact hk'.2.1
      · exact hk'.2.2

/-- The slice value '.slice A n _' reads as the cells xs (each element 'size' cells), below block B. -/
def Rd (w : World) (B size : Nat) (A : Option Addr) (n : Nat) (xs : List Value) : Prop :=
  xs.length = n * size ∧ (0 < n → ∃ b off, A = some ⟨b, off, none⟩ ∧ b < B ∧ ∀ j u, xs[j]? = some u → w.cell? ⟨b, off + j, none⟩ = some u)

section
variable {w w' : World} {B B' size n : Nat} {A : Option Addr} {xs : List Value}
theorem Rd.nil : Rd w B size A 0 [] := ⟨by simp, fun h => absurd h (by omega)⟩
theorem Rd.keep (h : Rd w B size A n xs) (hk : ∀ p : Addr, p.block < B → w'.cell? p = w.cell? p) : Rd w' B size A n xs :=
  ⟨h.1, fun hn => by
    obtain ⟨b, off, e, hb, hc⟩ := h.2 hn
    exact ⟨b, off, e, hb, fun j u hu => (hk ⟨b, off + j, none⟩ hb).trans (hc j u hu)⟩⟩
theorem Rd.more (h : Rd w B size A n xs) (hB : B ≤ B') : Rd w B' size A n xs :=
  ⟨h.1, fun hn => by
    obtain ⟨b, off, e, hb, hc⟩ := h.2 hn
    exact ⟨b, off, e, by omega, hc⟩⟩
theorem Rd.below (h : Rd w B size A n xs) (hb : Below B w w') : Rd w' B size A n xs := h.keep fun _ hp => hb.cell hp
theorem Rd.drew (h : Rd w B size A n xs) : Rd w.drew B size A n xs := h
theorem Rd.alloc (h : Rd w B size A n xs) (hB : B ≤ w.heap.size) (o : Obj) : Rd (w.alloc o) B size A n xs := h.keep fun p hp => World.cell?_alloc_lt w o p (by omega)
theorem Rd.op {l : List HOp} (h : Rd w B 3 A n (cellsH l)) {k : Nat} (hk : k < n) :
    ∃ b off o, A = some ⟨b, off, none⟩ ∧ b < B ∧ l[k]? = some o ∧ w.cell? ⟨b, off + k * 3, none⟩ = some (.int .i64 o.tx) ∧ w.cell? ⟨b, off + k * 3 + 1, none⟩ = some (.int .i64 o.what) ∧ w.cell? ⟨b, off + k * 3 + 2, none⟩ = some (.int .i64 o.item) := by
  obtain ⟨b, off, e, hb, hc⟩ := h.2 (by omega)
  have hl := h.1
  rw [cellsH_length] at hl
  have ho : l[k]? = some (l[k]'(by omega)) := List.getElem?_eq_getElem (by omega)
  obtain ⟨h0, h1, h2⟩ := cellsH_at ho
  exact ⟨b, off, _, e, hb, ho, hc _ _ h0, hc _ _ h1, hc _ _ h2⟩
theorem Rd.hlen {l : List HOp} (h : Rd w B 3 A n (cellsH l)) : l.length = n := by
  have hl := h.1
  rw [cellsH_length] at hl
  omega
theorem Rd.int {l : List Int} (h : Rd w B 1 A n (cellsI l)) {k : Nat} (hk : k < n) :
    ∃ b off x, A = some ⟨b, off, none⟩ ∧ b < B ∧ l[k]? = some x ∧ w.cell? ⟨b, off + k, none⟩ = some (.int .i64 x) := by
  obtain ⟨b, off, e, hb, hc⟩ := h.2 (by omega)
  have hl := h.1
  simp only [cellsI, List.length_map] at hl
  have ho : l[k]? = some (l[k]'(by omega)) := List.getElem?_eq_getElem (by omega)
  exact ⟨b, off, _, e, hb, ho, hc _ _ (by rw [cellsI, List.getElem?_map, ho]; rfl)⟩
theorem Rd.ilen {l : List Int} (h : Rd w B 1 A n (cellsI l)) : l.length = n := by
  have hl := h.1
  simp only [cellsI, List.length_map] at hl
  omega
end

/-- Block g is just the cells cs of type t, none frozen. -/
def Blk (w : World) (g : Nat) (t : TypeId) (cs : List Value) : Prop := w.heap[g]? = some (.cells cs.toArray t (0, 0))
section
variable {w w' : World} {g : Nat} {t : TypeId} {cs : List Value}
theorem Blk.lt (h : Blk w g t cs) : g < w.heap.size := by
  rcases Nat.lt_or_ge g w.heap.size with hlt | hge
  · exact hlt
  · unfold Blk at h; rw [Array.getElem?_eq_none hge] at h; cases h
theorem Blk.cell (h : Blk w g t cs) (i : Nat) : w.cell? ⟨g, i, none⟩ = cs[i]? := by
  unfold Blk at h; simp [World.cell?, h]
theorem Blk.cellS (h : Blk w g t cs) {i : Nat} {v : Value} (hv : cs[i]? = some v) : w.cell? ⟨g, i, none⟩ = some v := (h.cell i).trans hv
theorem Blk.frozen (h : Blk w g t cs) (i : Nat) : w.frozen? ⟨g, i, none⟩ = false := by
  unfold Blk at h; simp [World.frozen?, h]
theorem Blk.below {B : Nat} (h : Blk w g t cs) (hb : Below B w w') (hg : g < B) : Blk w' g t cs := (hb.block g hg).trans h
theorem Blk.alloc (h : Blk w g t cs) (o : Obj) : Blk (w.alloc o) g t cs := (Below.heap_alloc w o g h.lt).trans h
theorem Blk.drew (h : Blk w g t cs) : Blk w.drew g t cs := h
theorem Blk.new (w : World) (t : TypeId) (cs : List Value) : Blk (w.alloc (.cells cs.toArray t)) w.heap.size t cs := heap_alloc_new w _
theorem Blk.far (h : Blk w g t cs) {p : Addr} (hp : g ≠ p.block) (u : Value) : Blk (w.setCell p u) g t cs := (Below.heap_setCell w p u g hp).trans h
theorem Blk.put (h : Blk w g t cs) (i : Nat) (u : Value) : Blk (w.setCell ⟨g, i, none⟩ u) g t (cs.set i u) := by
  unfold Blk at h ⊢
  simp [World.setCell, Array.getElem?_modify, h]
end
end Go.Proofs.YtcdinhmdeaplgaaGreatDoor


namespace Go.Proofs.YtcdinhmdeaplgaaGreatDoor
open Go.RowKit

def errV (e : Int) : Value := if e = 0 then .nilIface else .iface 51 (.int .i64 e)
def checkGo (es : List Bool) (i : Nat) : List HOp → Nat × Int
  | [] => (0, 0)
  | o :: t => if rightB o = false then (i, 1) else if es.getD o.tx.toNat false = true then (i, 6) else checkGo (es.set o.tx.toNat (endsB o)) (i + 1) t
def checkF (h : List HOp) : Nat × Int := if 40 < h.length then (0, 4) else checkGo (List.replicate 7 false) 0 h

set_option maxHeartbeats 1000000 in
theorem check_any (A : Option Addr) (n cap : Nat) (h : List HOp) (w : World) (hr : Rd w w.heap.size 3 A n (cellsH h)) (hm : n ≤ 6000000000000) :
    Calls Tryz.prog 5 #[.slice A n cap] w fun e w' => e = .returned (.tuple #[.int .i64 (checkF h).1, errV (checkF h).2]) ∧ Below w.heap.size w w' := by
  have hl := hr.hlen
  have HL := Lib.hid hl
  by_cases hn : 40 < n
  · have hr : checkF h = (0, 4) := by rw [checkF, hl, if_pos hn]
    rw [hr]
    clear hl
    go_enter Tryz.func5, Tryz.ntmps5
    go_wp2
    go_ret2
    exact ⟨rfl, Below.refl _ _⟩
  · have hs : checkF h = checkGo (List.replicate 7 false) 0 h := by rw [checkF, hl, if_neg hn]
    rw [hs]
    clear hl hs
    go_enter Tryz.func5, Tryz.ntmps5
    go_wp2
    go_loopw [13] (fun i wr => ∃ (k : Nat) (es : List Bool), k ≤ n ∧ i = .int .i64 k ∧ es.length = 7 ∧ Blk wr w.heap.size 52 (es.map .bool) ∧ Hid (checkGo (List.replicate 7 false) 0 h = checkGo es k (h.drop k)) ∧ Below w.heap.size w wr)
      (fun i _ => n - (intOf i).toNat)
    case atStart => exact ⟨0, List.replicate 7 false, Nat.zero_le _, rfl, rfl, Blk.new w _ _, rfl, (Below.refl _ _).alloc (Nat.le_refl _) _⟩
    case round =>
      obtain ⟨k, es, hk, rfl, hes, hB, HE, hbw⟩ := hrel
      have hBlt := hB.lt
      by_cases hlt : k < n
      · obtain ⟨b, off, o, he, hb, ho, c0, c1, c2⟩ := (hr.below hbw).op (k := k) (by omega)
        cases he
        obtain ⟨tx, what, item⟩ := o
        have HO : Hid (h.drop k = ⟨tx, what, item⟩ :: h.drop (k + 1)) := drop_at ho
        clear ho
        have hb' : b < wr.heap.size := by omega
        cases hR : rightB ⟨tx, what, item⟩
        · have HF : Hid (checkGo (List.replicate 7 false) 0 h = (k, 1)) := Lib.hid (by rw [HE.out, HO.out]; simp [checkGo, hR])
          go_wp2_with (go_at_call 20; refine (right_any ⟨tx, what, item⟩ _).mono ?_; rintro e w1 ⟨rfl, hb1⟩; rw [hR]; obtain ⟨hc, hf⟩ := bcell hb1)
          go_ret2
          exact ⟨by rw [HF.out]; rfl, (hbw.alloc (Nat.le_of_lt hBlt) _).trans (hb1.mono (by simp; omega))⟩
        · have ht : 1 ≤ tx ∧ tx ≤ 6 := by simp [rightB, txB] at hR; omega
          obtain ⟨eb, heb⟩ : ∃ eb, es[tx.toNat]? = some eb := ⟨_, List.getElem?_eq_getElem (by omega)⟩
          have hct : wr.cell? ⟨w.heap.size, tx.toNat, none⟩ = some (.bool eb) := hB.cellS (by rw [List.getElem?_map, heb]; rfl)
          have hft : wr.frozen? ⟨w.heap.size, tx.toNat, none⟩ = false := hB.frozen _
          obtain ⟨ht1, ht2⟩ := ht
          cases eb
          · have HF : Hid (checkGo (List.replicate 7 false) 0 h = checkGo (es.set tx.toNat (endsB ⟨tx, what, item⟩)) (k + 1) (h.drop (k + 1))) := Lib.hid (by rw [HE.out, HO.out]; simp [checkGo, hR, heb])
            have HEB := Lib.hid heb; clear heb
            go_wp2_with (first
              | (go_at_call 20; refine (right_any ⟨tx, what, item⟩ _).mono ?_; rintro e w1 ⟨rfl, hb1⟩; rw [hR]; obtain ⟨hc, hf⟩ := bcell hb1))
            have hz : wr.heap.size < w1.heap.size := by have := hb1.size; simp at this; omega
            have hz' : w.heap.size < w1.heap.size := by omega
            have hb2 : Below w.heap.size w w1 := (hbw.alloc (Nat.le_of_lt hBlt) _).trans (hb1.mono (by simp; omega))
            have hB1 : Blk w1 w.heap.size 52 (es.map .bool) := (hB.alloc _).below hb1 (by simp; omega)
            have d0 : w1.cell? ⟨wr.heap.size, 0, none⟩ = some (.int .i64 tx) := by rw [hc _ _ (by simp)]; simp [World.cell?_alloc_new]
            have d1 : w1.cell? ⟨wr.heap.size, 1, none⟩ = some (.int .i64 what) := by rw [hc _ _ (by simp)]; simp [World.cell?_alloc_new]
            have d2 : w1.cell? ⟨wr.heap.size, 2, none⟩ = some (.int .i64 item) := by rw [hc _ _ (by simp)]; simp [World.cell?_alloc_new]
            have d3 : w1.cell? ⟨w.heap.size, tx.toNat, none⟩ = some (.bool false) := hB1.cellS (by rw [List.getElem?_map, HEB.out]; rfl)
            have d4 : w1.frozen? ⟨w.heap.size, tx.toNat, none⟩ = false := hB1.frozen _
            clear hc hf hb1
            go_region_with (first | (go_at_call 21; refine (ends_any ⟨tx, what, item⟩ _).mono ?_; rintro e w2 ⟨rfl, hb3⟩; have e0 := (hb3.cell (p := ⟨wr.heap.size, 0, none⟩) (by simp; omega)).trans d0; have e1 := (hb3.cell (p := ⟨wr.heap.size, 1, none⟩) (by simp; omega)).trans d1; have e2 := (hb3.cell (p := ⟨wr.heap.size, 2, none⟩) (by simp; omega)).trans d2; have e3 := (hb3.cell (p := ⟨w.heap.size, tx.toNat, none⟩) (by simp; omega)).trans d3; have e4 := (hb3.frozen (p := ⟨w.heap.size, tx.toNat, none⟩) (by simp; omega)).trans d4))
            all_goals
              go_wp2
              go_roundw
              case rel => exact ⟨k + 1, es.set tx.toNat (endsB ⟨tx, what, item⟩), by omega, by go_num, by simp [hes], by rw [List.map_set]; exact (hB1.drew.below hb3 hz').put _ _, HF, (hb2.drew.trans (hb3.mono (Nat.le_of_lt hz'))).setCell (Nat.le_refl _) _⟩
              case measure => simp [intOf]; omega
          · have HF : Hid (checkGo (List.replicate 7 false) 0 h = (k, 6)) := Lib.hid (by rw [HE.out, HO.out]; simp [checkGo, hR, heb])
            clear heb
            go_wp2_with (first
              | (go_at_call 20; refine (right_any ⟨tx, what, item⟩ _).mono ?_; rintro e w1 ⟨rfl, hb1⟩; rw [hR]; obtain ⟨hc, hf⟩ := bcell hb1))
            go_ret2
            exact ⟨by rw [HF.out]; rfl, (hbw.alloc (Nat.le_of_lt hBlt) _).trans (hb1.mono (by simp; omega))⟩
      · have HF : Hid (checkGo (List.replicate 7 false) 0 h = (0, 0)) := Lib.hid (by rw [HE.out, drop_end (by rw [HL.out]; omega)]; rfl)
        go_wp2
        go_ret2
        exact ⟨by rw [HF.out]; rfl, hbw⟩

theorem right_h (A : Option Addr) (n cap : Nat) (h : List HOp) (w : World) (hr : Rd w w.heap.size 3 A n (cellsH h)) (hm : n ≤ 6000000000000) :
    Calls Tryz.prog 25 #[.slice A n cap] w fun e w' => e = .returned (errV (checkF h).2) ∧ Below w.heap.size w w' := by
  have C := check_any A n cap h w hr hm
  generalize errV (checkF h).2 = ev at *
  generalize (checkF h).1 = iv at *
  go_enter Tryz.func25, Tryz.ntmps25
  go_wp2_with (go_at_call 5; refine (C).mono ?_; rintro e w1 ⟨rfl, hb1⟩)
  go_ret
  exact ⟨rfl, hb1⟩
end Go.Proofs.YtcdinhmdeaplgaaGreatDoor
