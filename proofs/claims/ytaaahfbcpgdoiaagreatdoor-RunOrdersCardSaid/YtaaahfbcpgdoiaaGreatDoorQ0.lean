
/-
  CONTRACTS of history.Tx, Item, Ends, right: each returns what the plain function of its name computes.
  WORDS of the walks: a slice that reads as a list of ops, of numbers; lists in rounds.
  LAWS of append over a slice that reads as a list of cells, nil and empty ones let in.
-/
import Derived.Test.YtaaahfbcpgdoiaaGreatDoorRows
import Derived.WalkKit
import Derived.WalkSpells
import Derived.WalkLawsBesides
import Derived.Lib.Hide
import Derived.Handy

namespace Go.Proofs.YtaaahfbcpgdoiaaGreatDoor
open Go.RowKit

/-- An op of a history. -/
structure HOp where
  tx : Int
  what : Int
  item : Int
  deriving DecidableEq, Repr, Inhabited

def HOp.val (o : HOp) : Value := .agg #[.int .i64 o.tx, .int .i64 o.what, .int .i64 o.item]
def txB (n : Int) : Bool := decide (1 ≤ n ∧ n ≤ 6)
def endsB (o : HOp) : Bool := decide (o.what = 3 ∨ o.what = 4)
def rightB (o : HOp) : Bool := txB o.tx && decide (1 ≤ o.what ∧ o.what ≤ 4) && (if endsB o then decide (o.item = 0) else txB o.item)

theorem bcell {W w1 : World} (hb : Below W.heap.size W w1) : (∀ b o, b < W.heap.size → w1.cell? ⟨b, o, none⟩ = W.cell? ⟨b, o, none⟩) ∧ (∀ b o, b < W.heap.size → w1.frozen? ⟨b, o, none⟩ = W.frozen? ⟨b, o, none⟩) :=
  ⟨fun b o h => hb.cell (p := ⟨b, o, none⟩) h, fun b o h => hb.frozen (p := ⟨b, o, none⟩) h⟩

theorem tx_any (n : Int) (w : World) : Calls Tryz.prog 133 #[.int .i64 n] w fun e w' => e = .returned (.bool (txB n)) ∧ w = w' := by
  by_cases h1 : 1 ≤ n <;> by_cases h2 : n ≤ 6
  all_goals
    go_enter Tryz.func133, Tryz.ntmps133
    go_wp2
    go_ret
    exact ⟨by simp [txB]; omega, rfl⟩

theorem item_any (n : Int) (w : World) : Calls Tryz.prog 134 #[.int .i64 n] w fun e w' => e = .returned (.bool (txB n)) ∧ w = w' := by
  by_cases h1 : 1 ≤ n <;> by_cases h2 : n ≤ 6
  all_goals
    go_enter Tryz.func134, Tryz.ntmps134
    go_wp2
    go_ret
    exact ⟨by simp [txB]; omega, rfl⟩

theorem ends_any (o : HOp) (w : World) : Calls Tryz.prog 62 #[o.val] w fun e w' => e = .returned (.bool (endsB o)) ∧ Below w.heap.size w w' := by
  obtain ⟨tx, what, item⟩ := o
  unfold HOp.val
  by_cases h1 : what = 3
  · subst h1
    go_enter Tryz.func62, Tryz.ntmps62
    go_wp2
    go_ret
    exact ⟨by simp [endsB], (Below.refl _ _).alloc (Nat.le_refl _) _⟩
  · by_cases h2 : what = 4
    all_goals
      go_enter Tryz.func62, Tryz.ntmps62
      go_wp2
      go_ret
      exact ⟨by simp [endsB, h1, h2], (Below.refl _ _).alloc (Nat.le_refl _) _⟩

set_option maxHeartbeats 400000 in
theorem right_any (o : HOp) (w : World) : Calls Tryz.prog 84 #[o.val] w fun e w' => e = .returned (.bool (rightB o)) ∧ Below w.heap.size w w' := by
  obtain ⟨tx, what, item⟩ := o
  have E := ends_any ⟨tx, what, item⟩
  unfold HOp.val at E ⊢
  cases hT : txB tx
  · have hr : rightB ⟨tx, what, item⟩ = false := by simp [rightB, hT]
    rw [hr]
    go_enter Tryz.func84, Tryz.ntmps84
    go_wp2_with (go_at_call 133; refine (tx_any _ _).mono ?_; rintro e w' ⟨rfl, rfl⟩; rw [hT])
    go_ret
    exact ⟨rfl, (Below.refl _ _).alloc (Nat.le_refl _) _⟩
  by_cases h1 : what < 1
  · have hr : rightB ⟨tx, what, item⟩ = false := by simp [rightB]; omega
    rw [hr]
    go_enter Tryz.func84, Tryz.ntmps84
    go_wp2_with (go_at_call 133; refine (tx_any _ _).mono ?_; rintro e w' ⟨rfl, rfl⟩; rw [hT])
    go_ret
    exact ⟨rfl, (Below.refl _ _).alloc (Nat.le_refl _) _⟩
  by_cases h2 : 4 < what
  · have hr : rightB ⟨tx, what, item⟩ = false := by simp [rightB]; omega
    rw [hr]
    go_enter Tryz.func84, Tryz.ntmps84
    go_wp2_with (go_at_call 133; refine (tx_any _ _).mono ?_; rintro e w' ⟨rfl, rfl⟩; rw [hT])
    go_ret
    exact ⟨rfl, (Below.refl _ _).alloc (Nat.le_refl _) _⟩
  cases hE : endsB ⟨tx, what, item⟩
  · have hr : rightB ⟨tx, what, item⟩ = txB item := by simp [rightB, hT, hE]; omega
    rw [hr]
    go_enter Tryz.func84, Tryz.ntmps84
    go_wp2_with (first
      | (go_at_call 133; refine (tx_any _ _).mono ?_; rintro e w' ⟨rfl, rfl⟩; rw [hT])
      | (go_at_call 62; refine (E _).mono ?_; rintro e w1 ⟨rfl, hb⟩; rw [hE]; obtain ⟨hc, hf⟩ := bcell hb)
      | (go_at_call 134; refine (item_any _ _).mono ?_; rintro e w' ⟨rfl, rfl⟩))
    go_ret
    exact ⟨rfl, ((Below.refl _ _).alloc (Nat.le_refl _) _).trans (hb.mono (by simp))⟩
  · have hr : rightB ⟨tx, what, item⟩ = decide (item = 0) := by simp [rightB, hT, hE]; omega
    rw [hr]
    go_enter Tryz.func84, Tryz.ntmps84
    go_wp2_with (first
      | (go_at_call 133; refine (tx_any _ _).mono ?_; rintro e w' ⟨rfl, rfl⟩; rw [hT])
      | (go_at_call 62; refine (E _).mono ?_; rintro e w1 ⟨rfl, hb⟩; rw [hE]; obtain ⟨hc, hf⟩ := bcell hb))
    go_ret
    exact ⟨by simp; rfl, ((Below.refl _ _).alloc (Nat.le_refl _) _).trans (hb.mono (by simp))⟩
end Go.Proofs.YtaaahfbcpgdoiaaGreatDoor


namespace Go.Proofs.YtaaahfbcpgdoiaaGreatDoor
open Go.RowKit

theorem hide {p : Prop} (h : p) : Hid p := h
theorem unhide {p : Prop} (h : Hid p) : p := h
theorem set_same {α : Type} {l : List α} {i : Nat} {x : α} (h : l[i]? = some x) : l.set i x = l := by
  obtain ⟨h1, h2⟩ := List.getElem?_eq_some_iff.1 h
  subst h2
  exact List.set_getElem_self h1
theorem drop_at {α : Type} {l : List α} {k : Nat} {o : α} (h : l[k]? = some o) : l.drop k = o :: l.drop (k + 1) := by
  obtain ⟨hk, rfl⟩ := List.getElem?_eq_some_iff.1 h
  exact List.drop_eq_getElem_cons hk
theorem drop_end {α : Type} {l : List α} {k : Nat} (h : l.length ≤ k) : l.drop k = [] := List.drop_eq_nil_of_le h
theorem ret_int {k : IntKind} {a b : Int} (h : a = b) : Ending.returned (.int k a) = .returned (.int k b) := by rw [h]
theorem ret_bool {a b : Bool} (h : a = b) : Ending.returned (.bool a) = .returned (.bool b) := by rw [h]

theorem rightB_get {o : HOp} (h : rightB o = true) : 1 ≤ o.tx ∧ o.tx ≤ 6 ∧ 1 ≤ o.what ∧ o.what ≤ 4 ∧ (o.what < 3 → 1 ≤ o.item ∧ o.item ≤ 6) ∧ (3 ≤ o.what → o.item = 0) := by
  unfold rightB txB endsB at h
  simp only [Bool.and_eq_true, decide_eq_true_eq] at h
  obtain ⟨⟨h1, h2⟩, h3⟩ := h
  refine ⟨h1.1, h1.2, h2.1, h2.2, fun hw => ?_, fun hw => ?_⟩
  · rw [if_neg (by omega)] at h3; simpa using h3
  · rw [if_pos (by omega)] at h3; simpa using h3

/-- The cells of a list of ops; of numbers. -/
def cellsH (h : List HOp) : List Value := h.flatMap fun o => [.int .i64 o.tx, .int .i64 o.what, .int .i64 o.item]
def cellsI (l : List Int) : List Value := l.map (.int .i64)

theorem cellsH_length (h : List HOp) : (cellsH h).length = h.length * 3 := by
  induction h with
  | nil => rfl
  | cons o t ih =>
    have e : cellsH (o :: t) = [.int .i64 o.tx, .int .i64 o.what, .int .i64 o.item] ++ cellsH t := rfl
    rw [e, List.length_append, ih]; simp; omega
theorem cellsH_append (a b : List HOp) : cellsH (a ++ b) = cellsH a ++ cellsH b := by simp [cellsH]
theorem cellsH_at {h : List HOp} {k : Nat} {o : HOp} (hk : h[k]? = some o) : (cellsH h)[k * 3]? = some (.int .i64 o.tx) ∧ (cellsH h)[k * 3 + 1]? = some (.int .i64 o.what) ∧ (cellsH h)[k * 3 + 2]? = some (.int .i64 o.item) := by
  induction h generalizing k with
  | nil => simp at hk
  | cons p t ih =>
    have e : cellsH (p :: t) = [.int .i64 p.tx, .int .i64 p.what, .int .i64 p.item] ++ cellsH t := rfl
    cases k with
    | zero =>
      obtain rfl : p = o := by simpa using hk
      rw [e]; simp
    | succ k =>
      have hk' := ih (k := k) (by simpa using hk)
      rw [e]
      have e0 : (k + 1) * 3 = k * 3 + 3 := by omega
      rw [e0]
      refine ⟨?_, ?_, ?_⟩ <;> rw [List.getElem?_append_right (by simp)]
      · exact hk'.1
      · exact hk'.2.1
      · exact hk'.2.2

/-- The slice value '.slice A n _' reads as the cells xs (each element 'size' cells), below block B. -/
def Rd (w : World) (B size : Nat) (A : Option Addr) (n : Nat) (xs : List Value) : Prop :=
  xs.length = n * size ∧ (0 < n → ∃ b off, A = some ⟨b, off, none⟩ ∧ b < B ∧ ∀ j u, xs[j]? = some u → w.cell? ⟨b, off + j, none⟩ = some u)

section
variable {w w' : World} {B B' size n : Nat} {A : Option Addr} {xs : List Value}
theorem Rd.nil : Rd w B size A 0 [] := ⟨by simp, fun h => absurd h (by omega)⟩
theorem Rd.keep (h : Rd w B size A n xs) (hk : ∀ p : Addr, p.block < B → w'.cell? p = w.cell? p) : Rd w' B size A n xs :=
  ⟨h.1, fun hn => by
    obtain ⟨b, off, e, hb, hc⟩ := h.2 hn
    exact ⟨b, off, e, hb, fun j u hu => (hk ⟨b, off + j, none⟩ hb).trans (hc j u hu)⟩⟩
theorem Rd.more (h : Rd w B size A n xs) (hB : B ≤ B') : Rd w B' size A n xs :=
  ⟨h.1, fun hn => by
    obtain ⟨b, off, e, hb, hc⟩ := h.2 hn
    exact ⟨b, off, e, by omega, hc⟩⟩
theorem Rd.below (h : Rd w B size A n xs) (hb : Below B w w') : Rd w' B size A n xs := h.keep fun _ hp => hb.cell hp
theorem Rd.drew (h : Rd w B size A n xs) : Rd w.drew B size A n xs := h
theorem Rd.alloc (h : Rd w B size A n xs) (hB : B ≤ w.heap.size) (o : Obj) : Rd (w.alloc o) B size A n xs := h.keep fun p hp => World.cell?_alloc_lt w o p (by omega)
theorem Rd.op {l : List HOp} (h : Rd w B 3 A n (cellsH l)) {k : Nat} (hk : k < n) :
    ∃ b off o, A = some ⟨b, off, none⟩ ∧ b < B ∧ l[k]? = some o ∧ w.cell? ⟨b, off + k * 3, none⟩ = some (.int .i64 o.tx) ∧ w.cell? ⟨b, off + k * 3 + 1, none⟩ = some (.int .i64 o.what) ∧ w.cell? ⟨b, off + k * 3 + 2, none⟩ = some (.int .i64 o.item) := by
  obtain ⟨b, off, e, hb, hc⟩ := h.2 (by omega)
  have hl := h.1
  rw [cellsH_length] at hl
  have ho : l[k]? = some (l[k]'(by omega)) := List.getElem?_eq_getElem (by omega)
  obtain ⟨h0, h1, h2⟩ := cellsH_at ho
  exact ⟨b, off, _, e, hb, ho, hc _ _ h0, hc _ _ h1, hc _ _ h2⟩
theorem Rd.hlen {l : List HOp} (h : Rd w B 3 A n (cellsH l)) : l.length = n := by
  have hl := h.1
  rw [cellsH_length] at hl
  omega
theorem Rd.int {l : List Int} (h : Rd w B 1 A n (cellsI l)) {k : Nat} (hk : k < n) :
    ∃ b off x, A = some ⟨b, off, none⟩ ∧ b < B ∧ l[k]? = some x ∧ w.cell? ⟨b, off + k, none⟩ = some (.int .i64 x) := by
  obtain ⟨b, off, e, hb, hc⟩ := h.2 (by omega)
  have hl := h.1
  simp only [cellsI, List.length_map] at hl
  have ho : l[k]? = some (l[k]'(by omega)) := List.getElem?_eq_getElem (by omega)
  exact ⟨b, off, _, e, hb, ho, hc _ _ (by rw [cellsI, List.getElem?_map, ho]; rfl)⟩
theorem Rd.ilen {l : List Int} (h : Rd w B 1 A n (cellsI l)) : l.length = n := by
  have hl := h.1
  simp only [cellsI, List.length_map] at hl
  omega
end

/-- Block g is just the cells cs of type t, none frozen. -/
def Blk (w : World) (g : Nat) (t : TypeId) (cs : List Value) : Prop := w.heap[g]? = some (.cells cs.toArray t (0, 0))
section
variable {w w' : World} {g : Nat} {t : TypeId} {cs : List Value}
theorem Blk.lt (h : Blk w g t cs) : g < w.heap.size := by
  rcases Nat.lt_or_ge g w.heap.size with hlt | hge
  · exact hlt
  · unfold Blk at h; rw [Array.getElem?_eq_none hge] at h; cases h
theorem Blk.cell (h : Blk w g t cs) (i : Nat) : w.cell? ⟨g, i, none⟩ = cs[i]? := by
  unfold Blk at h; simp [World.cell?, h]
theorem Blk.cellS (h : Blk w g t cs) {i : Nat} {v : Value} (hv : cs[i]? = some v) : w.cell? ⟨g, i, none⟩ = some v := (h.cell i).trans hv
theorem Blk.frozen (h : Blk w g t cs) (i : Nat) : w.frozen? ⟨g, i, none⟩ = false := by
  unfold Blk at h; simp [World.frozen?, h]
theorem Blk.below {B : Nat} (h : Blk w g t cs) (hb : Below B w w') (hg : g < B) : Blk w' g t cs := (hb.block g hg).trans h
theorem Blk.alloc (h : Blk w g t cs) (o : Obj) : Blk (w.alloc o) g t cs := (Below.heap_alloc w o g h.lt).trans h
theorem Blk.drew (h : Blk w g t cs) : Blk w.drew g t cs := h
theorem Blk.new (w : World) (t : TypeId) (cs : List Value) : Blk (w.alloc (.cells cs.toArray t)) w.heap.size t cs := heap_alloc_new w _
theorem Blk.far (h : Blk w g t cs) {p : Addr} (hp : g ≠ p.block) (u : Value) : Blk (w.setCell p u) g t cs := (Below.heap_setCell w p u g hp).trans h
theorem Blk.put (h : Blk w g t cs) (i : Nat) (u : Value) : Blk (w.setCell ⟨g, i, none⟩ u) g t (cs.set i u) := by
  unfold Blk at h ⊢
  simp [World.setCell, Array.getElem?_modify, h]
end
end Go.Proofs.YtaaahfbcpgdoiaaGreatDoor


namespace Go.Proofs.YtaaahfbcpgdoiaaGreatDoor
open Go.RowKit

/-- Slice type t has elements of type e, 'size' cells and 'bytes' bytes each. -/
def SlT (P : Program) (t e : TypeId) (size bytes : Nat) : Prop :=
  ∃ i z, P.underlying t = some (.slice e) ∧ P.info? e = some i ∧ i.zero = some z ∧ i.size = size ∧ i.bytes = bytes ∧ z.cells.size = size ∧ 0 < size ∧ 0 < bytes ∧ z.cells.toList.all (fun u => u.oneCell') = true

theorem slt_of {P : Program} {t e : TypeId} {z : Value} {size bytes : Nat} (ht : P.underlying t = some (.slice e)) (h : (P.info? e).map (fun i => (i.zero, i.size, i.bytes)) = some (some z, size, bytes))
    (hz : z.cells.size = size) (h0 : 0 < size) (h1 : 0 < bytes) (h2 : z.cells.toList.all (fun u => u.oneCell') = true := by kernel_rfl) : SlT P t e size bytes := by
  obtain ⟨i, hi, hx⟩ := Option.map_eq_some_iff.1 h
  simp only [Prod.mk.injEq] at hx
  exact ⟨i, z, ht, hi, hx.1, hx.2.1, hx.2.2, hz, h0, h1, h2⟩

theorem oneH (h : List HOp) : ∀ u ∈ cellsH h, u.oneCell' = true := by
  intro u hu
  simp only [cellsH, List.mem_flatMap] at hu
  obtain ⟨o, _, ho⟩ := hu
  simp at ho
  rcases ho with rfl | rfl | rfl <;> rfl
theorem oneI (l : List Int) : ∀ u ∈ cellsI l, u.oneCell' = true := by
  intro u hu
  simp only [cellsI, List.mem_map] at hu
  obtain ⟨o, _, rfl⟩ := hu
  rfl

section
variable {P : Program} {w : World}
theorem run_app {t ty e : TypeId} {size bytes base : Nat} (T : SlT P t e size bytes) {v : Value} {n : Nat} {xs : List Value} (hown : w.ownsRow base e size v n xs)
    {B : Nat} {A : Option Addr} {m c : Nat} {news : List Value} (hr : Rd w B size A m news) (h1 : ∀ u ∈ news, u.oneCell' = true) (hbytes : (n + m) * bytes ≤ 140737488355328) (hbase : base ≤ w.heap.size) :
    ∃ v' w', (Builtin.append_ #[t, t] ty #[v, .slice A m c]).run P w = .ok v' w' ∧ w'.ownsRow base e size v' (n + m) (xs ++ news) ∧ w.grownBy w' v.ownBlock ∧
      (v'.ownBlock = v.ownBlock ∨ v'.ownBlock = some w.heap.size) ∧ (0 < n + m → v'.ownBlock ≠ none) := by
  obtain ⟨i, z, ht, hi, hz, hsize, hby, hzs, h0, hb0, _⟩ := T
  have h63 : n + m ≤ maxLen := by
    have : n + m ≤ (n + m) * bytes := Nat.le_mul_of_pos_right _ hb0
    unfold maxLen; omega
  have hnil : m = 0 → ∃ v' w', (Builtin.append_ #[t, t] ty #[v, .slice none m c]).run P w = .ok v' w' ∧ w'.ownsRow base e size v' (n + m) (xs ++ news) ∧ w.grownBy w' v.ownBlock ∧
      (v'.ownBlock = v.ownBlock ∨ v'.ownBlock = some w.heap.size) ∧ (0 < n + m → v'.ownBlock ≠ none) := by
    rintro rfl
    have hn : news = [] := List.eq_nil_of_length_eq_zero (by simpa using hr.1)
    subst hn
    refine ⟨v, w, ?_, by simpa using hown, World.grownBy.refl w _, .inl rfl, fun hn => ?_⟩
    · rcases hown.2 with ⟨rfl, rfl⟩ | ⟨g, cap, cur, rfl, _, _, hnc, _⟩
      · simp [Builtin.append_, run_underlying ht, sizeOf, typeInfo, hi, Builtin.lenOf, Builtin.firstCells]
      · simp [Builtin.append_, run_underlying ht, sizeOf, typeInfo, hi, Builtin.lenOf, Builtin.firstCells, hnc, storeCells]
    · rcases hown.2 with ⟨rfl, rfl⟩ | ⟨g, cap, cur, rfl, _⟩
      · omega
      · simp [Value.ownBlock]
  rcases A with _ | ad
  · refine hnil ?_
    rcases Nat.eq_zero_or_pos m with h | h
    · exact h
    · obtain ⟨_, _, h, _⟩ := hr.2 h
      cases h
  · have hcells : ∀ j u, news[j]? = some u → w.cell? (ad.add j) = some u := by
      intro j u hu
      rcases Nat.eq_zero_or_pos m with h | h
      · subst h
        have hn : news = [] := List.eq_nil_of_length_eq_zero (by simpa using hr.1)
        subst hn
        simp at hu
      · obtain ⟨b, off, h, _, hc⟩ := hr.2 h
        injection h with h
        subst h
        have hj := hc j u hu
        unfold Addr.add
        split
        · next h => subst h; simpa using hj
        · exact hj
    obtain ⟨v', w', hrun, h2, h3, h4⟩ := run_append_own (P := P) w base t ty e i z size bytes ht hi hz hsize hby hzs h0 v n xs hown ad m c news hr.1 hcells h1 h63 hbytes hbase
    refine ⟨v', w', hrun, h2, h3, ?_, fun hn => ?_⟩
    · rcases hown.2 with ⟨rfl, rfl⟩ | ⟨g, cap, cur, rfl, _, hg, _, _, hcs, _⟩
      · rcases h2.2 with ⟨rfl, _⟩ | ⟨g, cap, cur, rfl, _, hg, _⟩
        · exact .inl rfl
        · right
          have hne : ¬ (g < w.heap.size) := by
            intro hlt
            by_cases hm : m = 0
            · subst hm
              have hh := (h4.2 ⟨rfl, rfl⟩)
              cases hh
            · have hr2 := run_append_nil (P := P) w t ty e i z ht hi hz ad m c news (by rw [hsize]; exact hr.1) hcells (by omega) (by unfold maxLen at h63; omega) (by rw [hby]; simp only [Nat.zero_add] at hbytes; omega)
              rw [hr2] at hrun
              injection hrun with hv hw
              injection hv with ha
              injection ha with ha
              injection ha with ha
              omega
          have hr2 : g < w'.heap.size := (Array.getElem?_eq_some_iff.1 hg).1
          by_cases hm : m = 0
          · subst hm
            have hh := (h4.2 ⟨rfl, rfl⟩)
            cases hh
          · have hr2 := run_append_nil (P := P) w t ty e i z ht hi hz ad m c news (by rw [hsize]; exact hr.1) hcells (by omega) (by unfold maxLen at h63; omega) (by rw [hby]; simp only [Nat.zero_add] at hbytes; omega)
            rw [hr2] at hrun
            injection hrun with hv hw
            injection hv with ha
            injection ha with ha
            injection ha with ha
            simp [Value.ownBlock, ha]
      · by_cases hroom : n + m ≤ cap
        · have hfit : n * i.size + news.length ≤ cur.size := by rw [hr.1, hsize, hcs, ← Nat.add_mul]; exact Nat.mul_le_mul_right _ hroom
          have hr2 := run_append_room (P := P) w t ty e i ht hi g n cap cur hg ad m c news (by rw [hsize]; exact hr.1) hcells h1 hroom hfit
          rw [hr2] at hrun
          injection hrun with hv _
          subst hv
          exact .inl rfl
        · have holds : ∀ j u, xs[j]? = some u → w.cell? ((⟨g, 0, none⟩ : Addr).add j) = some u := hown.cells (g := g) rfl
          have hr2 := run_append_grow (P := P) w t ty e i z ht hi hz ⟨g, 0, none⟩ n cap xs (by rw [hsize]; exact hown.1) holds ad m c news (by rw [hsize]; exact hr.1) hcells (by omega) (by unfold maxLen at h63; omega) (by rw [hby]; exact growslice_fits (by omega) hbytes)
          rw [hr2] at hrun
          injection hrun with hv _
          subst hv
          exact .inr rfl
    · rcases h2.2 with ⟨rfl, h⟩ | ⟨g, cap, cur, rfl, _⟩
      · omega
      · simp [Value.ownBlock]

theorem wp_app {o : Oper} {a : Act} {K : Act → World → Prop} {Q : Exit → Act → World → Prop} (s x : Operand) (t : TypeId)
    (ho : o.op = .call { callee := .builtin .append, args := #[s, x], argTypes := #[t, t] })
    {e : TypeId} {size bytes : Nat} (base : Nat) (T : SlT P t e size bytes) {v : Value} {n : Nat} {xs : List Value} (hs : a.eval s = v) (hown : w.ownsRow base e size v n xs)
    {B : Nat} {A : Option Addr} {m c : Nat} {news : List Value} (hx : a.eval x = .slice A m c) (hr : Rd w B size A m news) (h1 : ∀ u ∈ news, u.oneCell' = true) (hbytes : (n + m) * bytes ≤ 140737488355328) (hbase : base ≤ w.heap.size)
    (h : ∀ v' w', w'.ownsRow base e size v' (n + m) (xs ++ news) → w.grownBy w' v.ownBlock → Below base w w' → (v'.ownBlock = v.ownBlock ∨ v'.ownBlock = some w.heap.size) → (0 < n + m → v'.ownBlock ≠ none) → K (a.put o.dst v') w') : o.wp P a w K Q := by
  obtain ⟨v', w', hrun, h2, h3, h4, h5⟩ := run_app (P := P) (ty := o.type) (c := c) T hown hr h1 hbytes hbase
  unfold Oper.wp execOp
  simp only [ho, resolve, invoke, builtin, Sem.run_bind, Sem.run_pure, Result.andThen_ok, List.map_toArray, List.map_cons, List.map_nil, hs, hx, hrun]
  exact h v' w' h2 h3 ((Below.refl base w).grown h3 hbase fun k hk => (hown.lt k hk).1) h4 h5

theorem wpList_app {ops : Array Oper} {rest : List Oper} {o : Oper} {a : Act} {Q : Exit → Act → World → Prop} (hgd : o.guard = none) (s x : Operand) (t : TypeId)
    (ho : o.op = .call { callee := .builtin .append, args := #[s, x], argTypes := #[t, t] })
    {e : TypeId} {size bytes : Nat} (base : Nat) (T : SlT P t e size bytes) {v : Value} {n : Nat} {xs : List Value} (hs : a.eval s = v) (hown : w.ownsRow base e size v n xs)
    {B : Nat} {A : Option Addr} {m c : Nat} {news : List Value} (hx : a.eval x = .slice A m c) (hr : Rd w B size A m news) (h1 : ∀ u ∈ news, u.oneCell' = true) (hbytes : (n + m) * bytes ≤ 140737488355328) (hbase : base ≤ w.heap.size)
    (h : ∀ v' w', w'.ownsRow base e size v' (n + m) (xs ++ news) → w.grownBy w' v.ownBlock → Below base w w' → (v'.ownBlock = v.ownBlock ∨ v'.ownBlock = some w.heap.size) → (0 < n + m → v'.ownBlock ≠ none) → wpList P ops Q rest (a.put o.dst v') w') : wpList P ops Q (o :: rest) a w :=
  wpList_plain hgd fun _ hK => wp_app s x t ho base T hs hown hx hr h1 hbytes hbase fun v' w' h2 h3 h4 h5 h6 => hK _ _ (h v' w' h2 h3 h4 h5 h6)
end

/-- A slice that is the call's own reads. -/
theorem rd_own {w : World} {base : Nat} {e : TypeId} {size : Nat} {A : Option Addr} {n c : Nat} {xs : List Value} (h : w.ownsRow base e size (.slice A n c) n xs) : Rd w w.heap.size size A n xs := by
  refine ⟨h.1, fun hn => ?_⟩
  rcases h.2 with ⟨hv, h0⟩ | ⟨g, cap, cur, hv, _, hg, _⟩
  · omega
  · injection hv with hA
    subst hA
    refine ⟨g, 0, rfl, (Array.getElem?_eq_some_iff.1 hg).1, fun j u hu => ?_⟩
    have := h.cells (g := g) rfl j u hu
    unfold Addr.add at this
    split at this
    · next h => subst h; simpa using this
    · exact this
theorem own_slice {w : World} {base : Nat} {e : TypeId} {size : Nat} {v : Value} {n : Nat} {xs : List Value} (h : w.ownsRow base e size v n xs) : ∃ A c, v = .slice A n c := by
  rcases h.2 with ⟨rfl, rfl⟩ | ⟨g, cap, cur, rfl, _⟩
  · exact ⟨_, _, rfl⟩
  · exact ⟨_, _, rfl⟩
theorem own_below {w w' : World} {base B : Nat} {e : TypeId} {size : Nat} {v : Value} {n : Nat} {xs : List Value} (h : w.ownsRow base e size v n xs) (hb : Below B w w') (hB : w.heap.size ≤ B) : w'.ownsRow base e size v n xs := by
  refine h.kept (row := none) ⟨hb.os, hb.tape, hb.output, hb.size, fun k hk _ => hb.block k (by omega)⟩ ?_
  cases v.ownBlock <;> simp

theorem run_clear {P : Program} {w : World} {t ty e : TypeId} {size bytes base : Nat} (T : SlT P t e size bytes) {g n c : Nat} {xs : List Value} (hown : w.ownsRow base e size (.slice (some ⟨g, 0, none⟩) n c) n xs)
    {i : Nat} (hi : i ≤ n) {A' : Option Addr} {c' : Nat} (hA : i < n → A' = some ⟨g, i * size, none⟩) :
    ∃ w', (Builtin.clear_ #[t] ty #[.slice A' (n - i) c']).run P w = .ok (.tuple #[]) w' ∧ w'.ownsRow base e size (.slice (some ⟨g, 0, none⟩) i c) i (xs.take (i * size)) ∧ w.grownBy w' (some g) := by
  obtain ⟨inf, z, ht, hin, hz, hsize, hby, hzs, h0, hb0, hz1⟩ := T
  rcases hown.2 with ⟨h, _⟩ | ⟨g', cap, cur, h, hb, hg, hnc, hcm, hcs, htake⟩
  · simp at h
  · simp only [Value.slice.injEq, Option.some.injEq, Addr.mk.injEq, and_true, true_and] at h
    obtain ⟨rfl, rfl⟩ := h
    have hxl := hown.1
    have hle : i * size ≤ n * size := Nat.mul_le_mul_right _ hi
    have hle2 : n * size ≤ c * size := Nat.mul_le_mul_right _ hnc
    by_cases hin2 : i < n
    · rw [hA hin2]
      have hzl : (Builtin.zeroCells z.cells (n - i)).toList.length = (n - i) * size := by rw [Array.length_toList, size_zeroCells, hzs]
      have hst := run_storeCells_at P g (i * size) e (Builtin.zeroCells z.cells (n - i)).toList 0 cur w hg (by rw [hzl, hcs, Nat.sub_mul]; omega) (by
        intro v hv
        simp only [Builtin.zeroCells, Array.toList_map, List.mem_map] at hv
        obtain ⟨j, _, rfl⟩ := hv
        have hj : j % z.cells.size < z.cells.size := Nat.mod_lt _ (by omega)
        rw [getElem!_pos z.cells _ hj]
        exact (List.all_eq_true.1 hz1) _ (Array.getElem_mem_toList hj))
      refine ⟨w.setRow g (cur.toList.take (i * size + 0) ++ (Builtin.zeroCells z.cells (n - i)).toList ++ cur.toList.drop (i * size + 0 + (Builtin.zeroCells z.cells (n - i)).toList.length)).toArray, ?_, ?_,
        ⟨rfl, rfl, rfl, by simp, fun k _ hk => setRow_other w g k _ (fun e => hk (by simp [e]))⟩⟩
      · have hn : n - i ≠ 0 := by omega
        obtain ⟨m, hm⟩ : ∃ m, n - i = m + 1 := ⟨n - i - 1, by omega⟩
        rw [hm] at hst ⊢
        simp only [Builtin.clear_]
        simp [run_underlying ht, typeInfo, hin, zeroValue, hz, hst]
      · refine ⟨by rw [List.length_take, hxl, Nat.min_eq_left hle], .inr ⟨g, c, _, rfl, hb, setRow_heap w g cur _ e _ hg, by omega, hcm, ?_, ?_⟩⟩
        · simp only [List.size_toArray, List.length_append, List.length_take, List.length_drop, hzl, Array.length_toList, hcs, Nat.sub_mul, Nat.add_zero]
          omega
        · simp only [Nat.add_zero, List.append_assoc]
          rw [List.take_append_of_le_length (by simp; omega), List.take_take, Nat.min_self, ← htake, List.take_take, Nat.min_eq_left hle]
    · obtain rfl : i = n := by omega
      refine ⟨w, ?_, ?_, World.grownBy.refl w _⟩
      · rw [Nat.sub_self]
        rcases A' with _ | a
        · simp [Builtin.clear_, run_underlying ht]
        · simp [Builtin.clear_, run_underlying ht]
      · rw [← hxl, List.take_length]; exact hown

theorem wpList_clear {P : Program} {w : World} {ops : Array Oper} {rest : List Oper} {o : Oper} {a : Act} {Q : Exit → Act → World → Prop} (hgd : o.guard = none) (x : Operand) (t : TypeId)
    (ho : o.op = .call { callee := .builtin .clear, args := #[x], argTypes := #[t] })
    {e : TypeId} {size bytes base : Nat} (T : SlT P t e size bytes) {g n c : Nat} {xs : List Value} (hown : w.ownsRow base e size (.slice (some ⟨g, 0, none⟩) n c) n xs)
    {i : Nat} (hi : i ≤ n) {A' : Option Addr} {c' : Nat} (hx : a.eval x = .slice A' (n - i) c') (hA : i < n → A' = some ⟨g, i * size, none⟩)
    (h : ∀ w', w'.ownsRow base e size (.slice (some ⟨g, 0, none⟩) i c) i (xs.take (i * size)) → w.grownBy w' (some g) → wpList P ops Q rest (a.put o.dst (.tuple #[])) w') : wpList P ops Q (o :: rest) a w :=
  wpList_plain hgd fun _ hK => by
    obtain ⟨w', hrun, h2, h3⟩ := run_clear (P := P) (ty := o.type) (c' := c') T hown hi hA
    unfold Oper.wp execOp
    simp only [ho, resolve, invoke, builtin, Sem.run_bind, Sem.run_pure, Result.andThen_ok, List.map_toArray, List.map_cons, List.map_nil, hx, hrun]
    exact hK _ _ (h w' h2 h3)

theorem cellsH_set (h : List HOp) (i : Nat) (o : HOp) : (((cellsH h).set (i * 3) (.int .i64 o.tx)).set (i * 3 + 1) (.int .i64 o.what)).set (i * 3 + 2) (.int .i64 o.item) = cellsH (h.set i o) := by
  induction h generalizing i with
  | nil => rfl
  | cons p t ih =>
    have e : cellsH (p :: t) = [.int .i64 p.tx, .int .i64 p.what, .int .i64 p.item] ++ cellsH t := rfl
    cases i with
    | zero => rfl
    | succ i =>
      have e2 : cellsH ((p :: t).set (i + 1) o) = [.int .i64 p.tx, .int .i64 p.what, .int .i64 p.item] ++ cellsH (t.set i o) := rfl
      rw [e, e2, ← ih]
      have e0 : (i + 1) * 3 = i * 3 + 3 := by omega
      rw [e0]
      simp

theorem own_set3 {w : World} {base : Nat} {e : TypeId} {g n c : Nat} {h : List HOp} (hown : w.ownsRow base e 3 (.slice (some ⟨g, 0, none⟩) n c) n (cellsH h)) (i : Nat) (o : HOp) :
    (((w.setCell ⟨g, i * 3, none⟩ (.int .i64 o.tx)).setCell ⟨g, i * 3 + 1, none⟩ (.int .i64 o.what)).setCell ⟨g, i * 3 + 2, none⟩ (.int .i64 o.item)).ownsRow base e 3 (.slice (some ⟨g, 0, none⟩) n c) n (cellsH (h.set i o)) := by
  rw [← cellsH_set]
  exact ((((hown.stored (i * 3) _).1.stored (i * 3 + 1) _).1).stored (i * 3 + 2) _).1
theorem cellsH_take (h : List HOp) (i : Nat) : (cellsH h).take (i * 3) = cellsH (h.take i) := by
  induction h generalizing i with
  | nil => simp [cellsH]
  | cons p t ih =>
    cases i with
    | zero => simp [cellsH]
    | succ i =>
      have e : cellsH (p :: t) = [.int .i64 p.tx, .int .i64 p.what, .int .i64 p.item] ++ cellsH t := rfl
      have e2 : cellsH ((p :: t).take (i + 1)) = [.int .i64 p.tx, .int .i64 p.what, .int .i64 p.item] ++ cellsH (t.take i) := rfl
      have e0 : (i + 1) * 3 = i * 3 + 3 := by omega
      rw [e, e2, e0, ← ih]
      simp
theorem own_mono {w : World} {base base' : Nat} {e : TypeId} {size : Nat} {v : Value} {n : Nat} {xs : List Value} (h : w.ownsRow base e size v n xs) (hb : base' ≤ base) : w.ownsRow base' e size v n xs := by
  refine ⟨h.1, ?_⟩
  rcases h.2 with h | ⟨g, cap, cur, hv, hbg, r⟩
  · exact .inl h
  · exact .inr ⟨g, cap, cur, hv, Nat.le_trans hb hbg, r⟩

/-- As Rd, the block at least lo. -/
def RdB (w : World) (lo hi size : Nat) (A : Option Addr) (n : Nat) (xs : List Value) : Prop :=
  xs.length = n * size ∧ (0 < n → ∃ b off, A = some ⟨b, off, none⟩ ∧ lo ≤ b ∧ b < hi ∧ ∀ j u, xs[j]? = some u → w.cell? ⟨b, off + j, none⟩ = some u)
section
variable {w w' : World} {lo hi size n : Nat} {A : Option Addr} {xs : List Value}
theorem RdB.rd (h : RdB w lo hi size A n xs) : Rd w hi size A n xs := ⟨h.1, fun hn => by
  obtain ⟨b, off, e, _, hb, hc⟩ := h.2 hn
  exact ⟨b, off, e, hb, hc⟩⟩
theorem RdB.keep (h : RdB w lo hi size A n xs) (hk : ∀ p : Addr, lo ≤ p.block → p.block < hi → w'.cell? p = w.cell? p) : RdB w' lo hi size A n xs := ⟨h.1, fun hn => by
  obtain ⟨b, off, e, hl, hb, hc⟩ := h.2 hn
  exact ⟨b, off, e, hl, hb, fun j u hu => (hk ⟨b, off + j, none⟩ hl hb).trans (hc j u hu)⟩⟩
theorem RdB.alloc (h : RdB w lo hi size A n xs) (hB : hi ≤ w.heap.size) (o : Obj) : RdB (w.alloc o) lo hi size A n xs := h.keep fun p _ hp => World.cell?_alloc_lt w o p (by omega)
theorem RdB.drew (h : RdB w lo hi size A n xs) : RdB w.drew lo hi size A n xs := h
theorem RdB.set (h : RdB w lo hi size A n xs) {p : Addr} (hp : p.block < lo ∨ hi ≤ p.block) (u : Value) : RdB (w.setCell p u) lo hi size A n xs :=
  h.keep fun q h1 h2 => World.cell?_setCell_other w p q u (fun e => by subst e; omega)
theorem RdB.below {B : Nat} (h : RdB w lo hi size A n xs) (hb : Below B w w') (hB : hi ≤ B) : RdB w' lo hi size A n xs := h.keep fun p _ h2 => hb.cell (by omega)
theorem RdB.grown (h : RdB w lo hi size A n xs) {row : Option Nat} (hg : w.grownBy w' row) (hB : hi ≤ w.heap.size) (hr : ∀ g, row = some g → g < lo ∨ hi ≤ g) : RdB w' lo hi size A n xs :=
  h.keep fun p h1 h2 => World.cell?_of_block (hg.block p.block (by omega) (fun e => by have := hr _ e.symm; omega))
theorem rdb_own {base : Nat} {e : TypeId} {c : Nat} (h : w.ownsRow base e size (.slice A n c) n xs) : RdB w base w.heap.size size A n xs := ⟨h.1, fun hn => by
  obtain ⟨b, off, ha, hb, hc⟩ := (rd_own h).2 hn
  exact ⟨b, off, ha, (h.lt b (by rw [ha]; rfl)).1, hb, hc⟩⟩
end
theorem Blk.grown {w w' : World} {g : Nat} {t : TypeId} {cs : List Value} {row : Option Nat} (h : Blk w g t cs) (hb : w.grownBy w' row) (hg : ∀ k, row = some k → g ≠ k) : Blk w' g t cs :=
  (hb.block g h.lt (fun e => hg g e.symm rfl)).trans h
theorem own_alloc {w : World} {base : Nat} {e : TypeId} {size : Nat} {v : Value} {n : Nat} {xs : List Value} (h : w.ownsRow base e size v n xs) (o : Obj) : (w.alloc o).ownsRow base e size v n xs := h.alloc o
theorem own_far {w : World} {base : Nat} {e : TypeId} {size : Nat} {v : Value} {n : Nat} {xs : List Value} (h : w.ownsRow base e size v n xs) {p : Addr} (hp : p.block < base) (u : Value) : (w.setCell p u).ownsRow base e size v n xs := ownsRow_setCell_below h hp u
theorem rd_new (w : World) (e : TypeId) {size n : Nat} (cs : List Value) (h : cs.length = n * size) : Rd (w.alloc (.cells cs.toArray e)) (w.heap.size + 1) size (some ⟨w.heap.size, 0, none⟩) n cs :=
  ⟨h, fun _ => ⟨w.heap.size, 0, rfl, by omega, fun j u hu => by
    have := (Blk.new w e cs).cellS hu
    simpa using this⟩⟩
theorem rd_new' (w : World) (e : TypeId) {size n g : Nat} (cs : List Value) (hg : g = w.heap.size) (h : cs.length = n * size) : Rd (w.alloc (.cells cs.toArray e)) (w.heap.size + 1) size (some ⟨g, 0, none⟩) n cs := hg ▸ rd_new w e cs h
theorem one1 {x : Value} (h : x.oneCell' = true) : ∀ u ∈ [x], u.oneCell' = true := by
  intro u hu
  rw [List.mem_singleton.1 hu]; exact h
theorem own_blk {w : World} {g : Nat} {e : TypeId} {cs : List Value} (h : Blk w g e cs) {base size n : Nat} (hb : base ≤ g) (hm : n ≤ maxLen) (hl : cs.length = n * size) : w.ownsRow base e size (.slice (some ⟨g, 0, none⟩) n n) n cs :=
  ⟨hl, .inr ⟨g, n, cs.toArray, rfl, hb, h, Nat.le_refl _, hm, by simpa using hl, by rw [← hl]; simp⟩⟩
theorem own_ilen {w : World} {base : Nat} {e : TypeId} {v : Value} {n : Nat} {l : List Int} (h : w.ownsRow base e 1 v n (cellsI l)) : l.length = n := by
  have := h.1
  simpa [cellsI] using this
/-- Two rows whose elements' types differ never share a block: one stays while the other one grows. -/
theorem own_other {w w' : World} {base base' : Nat} {e e' : TypeId} {size size' : Nat} {v v' : Value} {n n' : Nat} {xs xs' : List Value} (h : w.ownsRow base e size v n xs) (h' : w.ownsRow base' e' size' v' n' xs') (hne : e ≠ e') (hg : w.grownBy w' v'.ownBlock) : w'.ownsRow base e size v n xs := by
  refine h.kept hg ?_
  rcases h.2 with ⟨rfl, _⟩ | ⟨g, cap, cur, rfl, _, hh, _⟩
  · exact .inl rfl
  · right
    rcases h'.2 with ⟨rfl, _⟩ | ⟨g', cap', cur', rfl, _, hh', _⟩
    · simp [Value.ownBlock]
    · intro he
      simp [Value.ownBlock] at he
      subst he
      rw [hh] at hh'
      injection hh' with hh'
      injection hh' with _ ht
      exact hne ht
/-- A block of another type than a row's elements' stays while the row grows. -/
theorem Blk.other {w w' : World} {g : Nat} {t : TypeId} {cs : List Value} {base : Nat} {e : TypeId} {size : Nat} {v : Value} {n : Nat} {xs : List Value} (h : Blk w g t cs) (h' : w.ownsRow base e size v n xs) (hne : t ≠ e) (hg : w.grownBy w' v.ownBlock) : Blk w' g t cs := by
  refine h.grown hg fun k hk => ?_
  rintro rfl
  rcases h'.2 with ⟨rfl, _⟩ | ⟨g', cap', cur', rfl, _, hh', _⟩
  · simp [Value.ownBlock] at hk
  · simp [Value.ownBlock] at hk
    subst hk
    unfold Blk at h
    rw [h] at hh'
    injection hh' with hh'
    injection hh' with _ ht
    exact hne ht
theorem step_app {P : Program} {w : World} {ops : Array Oper} {o : Oper} {a : Act} {K : Act → World → Prop} {Q : Exit → Act → World → Prop} {E : Prop} (hgd : o.guard = none) (s x : Operand) (t : TypeId)
    (ho : o.op = .call { callee := .builtin .append, args := #[s, x], argTypes := #[t, t] })
    {e : TypeId} {size bytes : Nat} (base : Nat) (T : SlT P t e size bytes) {v : Value} {n : Nat} {xs : List Value} (hs : a.eval s = v) (hown : w.ownsRow base e size v n xs)
    {B : Nat} {A : Option Addr} {m c : Nat} {news : List Value} (hx : a.eval x = .slice A m c) (hr : Rd w B size A m news) (h1 : ∀ u ∈ news, u.oneCell' = true) (hbytes : (n + m) * bytes ≤ 140737488355328) (hbase : base ≤ w.heap.size)
    (h : ∀ v' w', w'.ownsRow base e size v' (n + m) (xs ++ news) → w.grownBy w' v.ownBlock → Below base w w' → K (a.put o.dst v') w') :
    if Region.wanted o (yielded ops a.tmps) = true then Oper.wp P o a w K Q else E := by
  rw [if_pos (by simp [Region.wanted, hgd])]
  exact wp_app s x t ho base T hs hown hx hr h1 hbytes hbase fun v' w' h2 h3 h4 _ _ => h v' w' h2 h3 h4
end Go.Proofs.YtaaahfbcpgdoiaaGreatDoor
