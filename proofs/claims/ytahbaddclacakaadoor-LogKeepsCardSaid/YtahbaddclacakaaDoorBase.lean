
/-
  WORDS of the walks: a slice that reads as a list of ops, of numbers; lists in rounds.
-/
import Derived.Test.YtahbaddclacakaaDoorHist

namespace Go.Proofs.YtahbaddclacakaaDoor
open Go.RowKit

theorem hide {p : Prop} (h : p) : Hid p := h
theorem unhide {p : Prop} (h : Hid p) : p := h
theorem set_same {α : Type} {l : List α} {i : Nat} {x : α} (h : l[i]? = some x) : l.set i x = l := by
  obtain ⟨h1, h2⟩ := List.getElem?_eq_some_iff.1 h
  subst h2
  exact List.set_getElem_self h1
theorem drop_at {α : Type} {l : List α} {k : Nat} {o : α} (h : l[k]? = some o) : l.drop k = o :: l.drop (k + 1) := by
  obtain ⟨hk, rfl⟩ := List.getElem?_eq_some_iff.1 h
  exact List.drop_eq_getElem_cons hk
theorem drop_end {α : Type} {l : List α} {k : Nat} (h : l.length ≤ k) : l.drop k = [] := List.drop_eq_nil_of_le h
theorem ret_int {k : IntKind} {a b : Int} (h : a = b) : Ending.returned (.int k a) = .returned (.int k b) := by rw [h]
theorem ret_bool {a b : Bool} (h : a = b) : Ending.returned (.bool a) = .returned (.bool b) := by rw [h]

theorem rightB_get {o : HOp} (h : rightB o = true) : 1 ≤ o.tx ∧ o.tx ≤ 6 ∧ 1 ≤ o.what ∧ o.what ≤ 4 ∧ (o.what < 3 → 1 ≤ o.item ∧ o.item ≤ 6) ∧ (3 ≤ o.what → o.item = 0) := by
  unfold rightB txB endsB at h
  simp only [Bool.and_eq_true, decide_eq_true_eq] at h
  obtain ⟨⟨h1, h2⟩, h3⟩ := h
  refine ⟨h1.1, h1.2, h2.1, h2.2, fun hw => ?_, fun hw => ?_⟩
  · rw [if_neg (by omega)] at h3; simpa using h3
  · rw [if_pos (by omega)] at h3; simpa using h3

/-- The cells of a list of ops; of numbers. -/
def cellsH (h : List HOp) : List Value := h.flatMap fun o => [.int .i64 o.tx, .int .i64 o.what, .int .i64 o.item]
def cellsI (l : List Int) : List Value := l.map (.int .i64)

theorem cellsH_length (h : List HOp) : (cellsH h).length = h.length * 3 := by
  induction h with
  | nil => rfl
  | cons o t ih =>
    have e : cellsH (o :: t) = [.int .i64 o.tx, .int .i64 o.what, .int .i64 o.item] ++ cellsH t := rfl
    rw [e, List.length_append, ih]; simp; omega
theorem cellsH_append (a b : List HOp) : cellsH (a ++ b) = cellsH a ++ cellsH b := by simp [cellsH]
theorem cellsH_at {h : List HOp} {k : Nat} {o : HOp} (hk : h[k]? = some o) : (cellsH h)[k * 3]? = some (.int .i64 o.tx) ∧ (cellsH h)[k * 3 + 1]? = some (.int .i64 o.what) ∧ (cellsH h)[k * 3 + 2]? = some (.int .i64 o.item) := by
  induction h generalizing k with
  | nil => simp at hk
  | cons p t ih =>
    have e : cellsH (p :: t) = [.int .i64 p.tx, .int .i64 p.what, .int .i64 p.item] ++ cellsH t := rfl
    cases k with
    | zero =>
      obtain rfl : p = o := by simpa using hk
      rw [e]; simp
    | succ k =>
      have hk' := ih (k := k) (by simpa using hk)
      rw [e]
      have e0 : (k + 1) * 3 = k * 3 + 3 := by omega
      rw [e0]
      refine ⟨?_, ?_, ?_⟩ <;> rw [List.getElem?_append_right (by simp)]
      · exact hk'.1
      · exact hk'.2.1
      · exact hk'.2.2

/-- The slice value '.slice A n _' reads as the cells xs (each element 'size' cells), below block B. -/
def Rd (w : World) (B size : Nat) (A : Option Addr) (n : Nat) (xs : List Value) : Prop :=
  xs.length = n * size ∧ (0 < n → ∃ b off, A = some ⟨b, off, none⟩ ∧ b < B ∧ ∀ j u, xs[j]? = some u → w.cell? ⟨b, off + j, none⟩ = some u)

section
variable {w w' : World} {B B' size n : Nat} {A : Option Addr} {xs : List Value}
theorem Rd.nil : Rd w B size A 0 [] := ⟨by simp, fun h => absurd h (by omega)⟩
theorem Rd.keep (h : Rd w B size A n xs) (hk : ∀ p : Addr, p.block < B → w'.cell? p = w.cell? p) : Rd w' B size A n xs :=
  ⟨h.1, fun hn => by
    obtain ⟨b, off, e, hb, hc⟩ := h.2 hn
    exact ⟨b, off, e, hb, fun j u hu => (hk ⟨b, off + j, none⟩ hb).trans (hc j u hu)⟩⟩
theorem Rd.more (h : Rd w B size A n xs) (hB : B ≤ B') : Rd w B' size A n xs :=
  ⟨h.1, fun hn => by
    obtain ⟨b, off, e, hb, hc⟩ := h.2 hn
    exact ⟨b, off, e, by omega, hc⟩⟩
theorem Rd.below (h : Rd w B size A n xs) (hb : Below B w w') : Rd w' B size A n xs := h.keep fun _ hp => hb.cell hp
theorem Rd.drew (h : Rd w B size A n xs) : Rd w.drew B size A n xs := h
theorem Rd.alloc (h : Rd w B size A n xs) (hB : B ≤ w.heap.size) (o : Obj) : Rd (w.alloc o) B size A n xs := h.keep fun p hp => World.cell?_alloc_lt w o p (by omega)
theorem Rd.op {l : List HOp} (h : Rd w B 3 A n (cellsH l)) {k : Nat} (hk : k < n) :
    ∃ b off o, A = some ⟨b, off, none⟩ ∧ b < B ∧ l[k]? = some o ∧ w.cell? ⟨b, off + k * 3, none⟩ = some (.int .i64 o.tx) ∧ w.cell? ⟨b, off + k * 3 + 1, none⟩ = some (.int .i64 o.what) ∧ w.cell? ⟨b, off + k * 3 + 2, none⟩ = some (.int .i64 o.item) := by
  obtain ⟨b, off, e, hb, hc⟩ := h.2 (by omega)
  have hl := h.1
  rw [cellsH_length] at hl
  have ho : l[k]? = some (l[k]'(by omega)) := List.getElem?_eq_getElem (by omega)
  obtain ⟨h0, h1, h2⟩ := cellsH_at ho
  exact ⟨b, off, _, e, hb, ho, hc _ _ h0, hc _ _ h1, hc _ _ h2⟩
theorem Rd.hlen {l : List HOp} (h : Rd w B 3 A n (cellsH l)) : l.length = n := by
  have hl := h.1
  rw [cellsH_length] at hl
  omega
theorem Rd.int {l : List Int} (h : Rd w B 1 A n (cellsI l)) {k : Nat} (hk : k < n) :
    ∃ b off x, A = some ⟨b, off, none⟩ ∧ b < B ∧ l[k]? = some x ∧ w.cell? ⟨b, off + k, none⟩ = some (.int .i64 x) := by
  obtain ⟨b, off, e, hb, hc⟩ := h.2 (by omega)
  have hl := h.1
  simp only [cellsI, List.length_map] at hl
  have ho : l[k]? = some (l[k]'(by omega)) := List.getElem?_eq_getElem (by omega)
  exact ⟨b, off, _, e, hb, ho, hc _ _ (by rw [cellsI, List.getElem?_map, ho]; rfl)⟩
theorem Rd.ilen {l : List Int} (h : Rd w B 1 A n (cellsI l)) : l.length = n := by
  have hl := h.1
  simp only [cellsI, List.length_map] at hl
  omega
end

/-- Block g is just the cells cs of type t, none frozen. -/
def Blk (w : World) (g : Nat) (t : TypeId) (cs : List Value) : Prop := w.heap[g]? = some (.cells cs.toArray t (0, 0))
section
variable {w w' : World} {g : Nat} {t : TypeId} {cs : List Value}
theorem Blk.lt (h : Blk w g t cs) : g < w.heap.size := by
  rcases Nat.lt_or_ge g w.heap.size with hlt | hge
  · exact hlt
  · unfold Blk at h; rw [Array.getElem?_eq_none hge] at h; cases h
theorem Blk.cell (h : Blk w g t cs) (i : Nat) : w.cell? ⟨g, i, none⟩ = cs[i]? := by
  unfold Blk at h; simp [World.cell?, h]
theorem Blk.cellS (h : Blk w g t cs) {i : Nat} {v : Value} (hv : cs[i]? = some v) : w.cell? ⟨g, i, none⟩ = some v := (h.cell i).trans hv
theorem Blk.frozen (h : Blk w g t cs) (i : Nat) : w.frozen? ⟨g, i, none⟩ = false := by
  unfold Blk at h; simp [World.frozen?, h]
theorem Blk.below {B : Nat} (h : Blk w g t cs) (hb : Below B w w') (hg : g < B) : Blk w' g t cs := (hb.block g hg).trans h
theorem Blk.alloc (h : Blk w g t cs) (o : Obj) : Blk (w.alloc o) g t cs := (Below.heap_alloc w o g h.lt).trans h
theorem Blk.drew (h : Blk w g t cs) : Blk w.drew g t cs := h
theorem Blk.new (w : World) (t : TypeId) (cs : List Value) : Blk (w.alloc (.cells cs.toArray t)) w.heap.size t cs := heap_alloc_new w _
theorem Blk.far (h : Blk w g t cs) {p : Addr} (hp : g ≠ p.block) (u : Value) : Blk (w.setCell p u) g t cs := (Below.heap_setCell w p u g hp).trans h
theorem Blk.put (h : Blk w g t cs) (i : Nat) (u : Value) : Blk (w.setCell ⟨g, i, none⟩ u) g t (cs.set i u) := by
  unfold Blk at h ⊢
  simp [World.setCell, Array.getElem?_modify, h]
end
end Go.Proofs.YtahbaddclacakaaDoor
