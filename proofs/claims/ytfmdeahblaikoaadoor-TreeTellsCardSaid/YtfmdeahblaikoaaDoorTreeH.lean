
/-
  THE STATE OF A TREE IN MEMORY: who holds each item (a map), what each deal had (seven rows); a row of grips.
-/
import Derived.Test.YtfmdeahblaikoaaDoorTR1
import Derived.Test.YtfmdeahblaikoaaDoorMapR
import Derived.Test.YtfmdeahblaikoaaDoorCheck
import Derived.Test.YtfmdeahblaikoaaDoorGraph
import Derived.StillTailTactics
import Derived.Deep.RegionHeld3
import Derived.Deep.QuietTactic
import Derived.BigQuiet

namespace Go.Proofs.YtfmdeahblaikoaaDoor
open Go.RowKit

def gVal (g : GOp) : Value := .agg #[.int .i64 g.tx, .int .i64 g.item, .bool g.lock]
def cellsG (l : List GOp) : List Value := l.flatMap fun g => [.int .i64 g.tx, .int .i64 g.item, .bool g.lock]
theorem cellsG_length (l : List GOp) : (cellsG l).length = l.length * 3 := by
  induction l with
  | nil => rfl
  | cons o t ih =>
    have e : cellsG (o :: t) = [.int .i64 o.tx, .int .i64 o.item, .bool o.lock] ++ cellsG t := rfl
    rw [e, List.length_append, ih]; simp; omega
theorem cellsG_append (a b : List GOp) : cellsG (a ++ b) = cellsG a ++ cellsG b := by simp [cellsG]
theorem oneG (l : List GOp) : ∀ u ∈ cellsG l, u.oneCell' = true := by
  intro u hu
  simp only [cellsG, List.mem_flatMap] at hu
  obtain ⟨o, _, ho⟩ := hu
  simp at ho
  rcases ho with rfl | rfl | rfl <;> rfl
theorem cellsG_at {l : List GOp} {k : Nat} {o : GOp} (hk : l[k]? = some o) : (cellsG l)[k * 3]? = some (.int .i64 o.tx) ∧ (cellsG l)[k * 3 + 1]? = some (.int .i64 o.item) ∧ (cellsG l)[k * 3 + 2]? = some (.bool o.lock) := by
  induction l generalizing k with
  | nil => simp at hk
  | cons p t ih =>
    have e : cellsG (p :: t) = [.int .i64 p.tx, .int .i64 p.item, .bool p.lock] ++ cellsG t := rfl
    cases k with
    | zero =>
      obtain rfl : p = o := by simpa using hk
      rw [e]; simp
    | succ k =>
      have hk' := ih (k := k) (by simpa using hk)
      rw [e]
      have e0 : (k + 1) * 3 = k * 3 + 3 := by omega
      rw [e0]
      refine ⟨?_, ?_, ?_⟩ <;> rw [List.getElem?_append_right (by simp)]
      · exact hk'.1
      · exact hk'.2.1
      · exact hk'.2.2
section
variable {w w' : World} {B n : Nat} {A : Option Addr}
theorem Rd.grip {l : List GOp} (h : Rd w B 3 A n (cellsG l)) {k : Nat} (hk : k < n) :
    ∃ b off o, A = some ⟨b, off, none⟩ ∧ b < B ∧ l[k]? = some o ∧ w.cell? ⟨b, off + k * 3, none⟩ = some (.int .i64 o.tx) ∧ w.cell? ⟨b, off + k * 3 + 1, none⟩ = some (.int .i64 o.item) ∧ w.cell? ⟨b, off + k * 3 + 2, none⟩ = some (.bool o.lock) := by
  obtain ⟨b, off, e, hb, hc⟩ := h.2 (by omega)
  have hl := h.1
  rw [cellsG_length] at hl
  have ho : l[k]? = some (l[k]'(by omega)) := List.getElem?_eq_getElem (by omega)
  obtain ⟨h0, h1, h2⟩ := cellsG_at ho
  exact ⟨b, off, _, e, hb, ho, hc _ _ h0, hc _ _ h1, hc _ _ h2⟩
theorem Rd.glen {l : List GOp} (h : Rd w B 3 A n (cellsG l)) : l.length = n := by
  have hl := h.1
  rw [cellsG_length] at hl
  omega
end
theorem getI_put (k j : Int) (v : Value) : ∀ m : List (Int × Value), getI (putI m k v) j = if k = j then some v else getI m j
  | [] => by simp [putI, getI]
  | p :: t => by
    unfold putI
    by_cases h : p.1 = k
    · rw [if_pos h]
      unfold getI
      by_cases h2 : k = j
      · rw [if_pos h2, if_pos h2]
      · rw [if_neg h2, if_neg h2, if_neg (by rw [h]; exact h2)]
    · rw [if_neg h]
      unfold getI
      rw [getI_put k j v t]
      by_cases h2 : p.1 = j
      · rw [if_pos h2, if_pos h2, if_neg (fun e => h (h2.trans e.symm))]
      · rw [if_neg h2, if_neg h2]
theorem putI_keys (k : Int) (v : Value) : ∀ m : List (Int × Value), (putI m k v).map (·.1) = if k ∈ m.map (·.1) then m.map (·.1) else m.map (·.1) ++ [k]
  | [] => rfl
  | p :: t => by
    unfold putI
    by_cases h : p.1 = k
    · rw [if_pos h, if_pos (by simp [h])]; simp [h]
    · rw [if_neg h, List.map_cons, putI_keys k v t]
      by_cases h2 : k ∈ t.map (·.1)
      · rw [if_pos h2, if_pos (by simp only [List.map_cons]; exact List.mem_cons_of_mem _ h2), List.map_cons]
      · rw [if_neg h2, if_neg (by simp only [List.map_cons, List.mem_cons, not_or]; exact ⟨fun e => h e.symm, h2⟩)]; rfl
theorem putI_nodup {m : List (Int × Value)} (h : (m.map (·.1)).Nodup) (k : Int) (v : Value) : ((putI m k v).map (·.1)).Nodup := by
  rw [putI_keys]
  split
  · exact h
  · rename_i hk
    exact List.nodup_append.2 ⟨h, by simp, fun x hx y hy e => hk (by rw [List.mem_singleton] at hy; rw [← hy, ← e]; exact hx)⟩
theorem getI_notin {k : Int} : ∀ {m : List (Int × Value)}, k ∉ m.map (·.1) → getI m k = none
  | [], _ => rfl
  | p :: t, h => by
    simp only [List.map_cons, List.mem_cons, not_or] at h
    unfold getI
    rw [if_neg (fun e => h.1 e.symm), getI_notin h.2]
theorem delI_sub (k : Int) : ∀ m : List (Int × Value), (delI m k).Sublist m
  | [] => .slnil
  | p :: t => by
    unfold delI
    split
    · exact List.sublist_cons_self _ _
    · exact (delI_sub k t).cons_cons _
theorem getI_del {k : Int} (j : Int) : ∀ {m : List (Int × Value)}, (m.map (·.1)).Nodup → getI (delI m k) j = if k = j then none else getI m j
  | [], _ => by simp [delI, getI]
  | p :: t, h => by
    rw [List.map_cons, List.nodup_cons] at h
    unfold delI
    by_cases h1 : p.1 = k
    · rw [if_pos h1]
      by_cases h2 : k = j
      · rw [if_pos h2, ← h2, ← h1]; exact getI_notin h.1
      · rw [if_neg h2]
        unfold getI
        rw [if_neg (by rw [h1]; exact h2)]
        cases t <;> rfl
    · rw [if_neg h1]
      unfold getI
      rw [getI_del j h.2]
      by_cases h2 : p.1 = j
      · rw [if_pos h2, if_pos h2, if_neg (fun e => h1 (h2.trans e.symm))]
      · rw [if_neg h2, if_neg h2]
theorem delI_nodup {m : List (Int × Value)} (h : (m.map (·.1)).Nodup) (k : Int) : ((delI m k).map (·.1)).Nodup := h.sublist ((delI_sub k m).map _)

def sevenT : List Int := [0, 1, 2, 3, 4, 5, 6]
theorem sevenT_at {t : Int} (h0 : 0 ≤ t) (h6 : t ≤ 6) : sevenT[t.toNat]? = some t := by
  have : t = 0 ∨ t = 1 ∨ t = 2 ∨ t = 3 ∨ t = 4 ∨ t = 5 ∨ t = 6 := by omega
  rcases this with rfl | rfl | rfl | rfl | rfl | rfl | rfl <;> rfl
/-- Seven values, one put anew. -/
theorem seven_set {α : Type} (f : Int → α) {t : Int} (h0 : 0 ≤ t) (h6 : t ≤ 6) (v : α) : (sevenT.map f).set t.toNat v = sevenT.map (updF f t v) := by
  have : t = 0 ∨ t = 1 ∨ t = 2 ∨ t = 3 ∨ t = 4 ∨ t = 5 ∨ t = 6 := by omega
  rcases this with rfl | rfl | rfl | rfl | rfl | rfl | rfl <;> rfl
/-- Who holds which item, as a map tells. -/
def HoldM (mm : List (Int × Value)) (hold : Int → Int) : Prop := (mm.map (·.1)).Nodup ∧ ∀ i, getI mm i = if hold i = 0 then none else some (.int .i64 (hold i))
structure TreeH (lo : Nat) (w : World) (g b : Nat) (s : TSt) (mm : List (Int × Value)) (vs : Int → Value) : Prop where
  blk : Blk w g 120 (.map (some b) :: sevenT.map vs)
  gl : lo ≤ g
  map : MapI w b mm
  bl : lo ≤ b
  hold : HoldM mm s.hold
  had : ∀ t, 0 ≤ t → t ≤ 6 → w.ownsRow lo 3 1 (vs t) (s.had t).length (cellsI (s.had t))
  apart : ∀ t u k, 0 ≤ t → t ≤ 6 → 0 ≤ u → u ≤ 6 → t ≠ u → (vs t).ownBlock = some k → (vs u).ownBlock ≠ some k
section
variable {lo : Nat} {w w' w2 : World} {g b : Nat} {s : TSt} {mm : List (Int × Value)} {vs : Int → Value}
theorem TreeH.below (h : TreeH lo w g b s mm vs) (hb : Below w.heap.size w w') : TreeH lo w' g b s mm vs :=
  ⟨h.blk.below hb h.blk.lt, h.gl, h.map.below hb h.map.lt, h.bl, h.hold, fun t h0 h6 => own_below (h.had t h0 h6) hb (Nat.le_refl _), h.apart⟩
theorem map_not_row {base : Nat} {e : TypeId} {size : Nat} {v : Value} {n : Nat} {xs : List Value} (hm : MapI w b mm) (h : w.ownsRow base e size v n xs) : ∀ k, v.ownBlock = some k → k ≠ b := by
  intro k hk e2
  obtain ⟨es, clock, hb, _⟩ := hm
  rcases h.2 with ⟨rfl, _⟩ | ⟨g', cap, cur, rfl, _, hh, _⟩
  · cases hk
  · simp only [Value.ownBlock, Option.some.injEq] at hk
    rw [hk, e2, hb] at hh; cases hh
theorem map_not_blk {t : TypeId} {cs : List Value} (hm : MapI w b mm) (h : Blk w g t cs) : g ≠ b := by
  intro e2
  obtain ⟨es, clock, hb, _⟩ := hm
  unfold Blk at h
  rw [e2, hb] at h; cases h
theorem row_not_blk {base : Nat} {e : TypeId} {size : Nat} {v : Value} {n : Nat} {xs : List Value} {t : TypeId} {cs : List Value} (h : w.ownsRow base e size v n xs) (hB : Blk w g t cs) (hne : t ≠ e) : ∀ k, v.ownBlock = some k → k ≠ g := by
  intro k hk e2
  rcases h.2 with ⟨rfl, _⟩ | ⟨g', cap, cur, rfl, _, hh, _⟩
  · cases hk
  · simp only [Value.ownBlock, Option.some.injEq] at hk
    unfold Blk at hB
    rw [hk, e2, hB] at hh
    injection hh with hh
    injection hh with _ ht
    exact hne ht
theorem own_grownOther {base : Nat} {e : TypeId} {size : Nat} {v : Value} {n : Nat} {xs : List Value} (h : w.ownsRow base e size v n xs) {row : Option Nat} (hg : w.grownBy w' row) (hr : ∀ k, v.ownBlock = some k → row ≠ some k) : w'.ownsRow base e size v n xs := by
  refine h.kept hg ?_
  cases hv : v.ownBlock with
  | none => exact .inl rfl
  | some k => exact .inr (fun e => hr k hv e.symm)
theorem own_set_row {base : Nat} {e : TypeId} {size : Nat} {v : Value} {n : Nat} {xs : List Value} (h : w.ownsRow base e size v n xs) (hn : ∀ k, v.ownBlock = some k → k ≠ g) (i : Nat) (u : Value) : (w.setCell ⟨g, i, none⟩ u).ownsRow base e size v n xs := by
  refine h.kept (row := some g) ⟨rfl, rfl, rfl, by simp [World.setCell], fun k _ hk => Below.heap_setCell w _ u k (fun e => hk (by rw [e]))⟩ ?_
  cases hv : v.ownBlock with
  | none => exact .inl rfl
  | some k => exact .inr (fun e => hn k hv (by injection e))
/-- The map changed. -/
theorem TreeH.mapped (h : TreeH lo w g b s mm vs) (hg : w.grownBy w' (some b)) {mm' : List (Int × Value)} (hm : MapI w' b mm') {hold : Int → Int} (hh : HoldM mm' hold) : TreeH lo w' g b { s with hold := hold } mm' vs :=
  ⟨h.blk.grown hg (fun k hk => by cases hk; exact map_not_blk h.map h.blk), h.gl, hm, h.bl, hh, fun t h0 h6 => own_grownOther (h.had t h0 h6) hg (fun k hk e => map_not_row h.map (h.had t h0 h6) k hk (by injection e with e; exact e.symm)), h.apart⟩
/-- One deal's row grew, and is written anew. -/
theorem TreeH.grew (h : TreeH lo w g b s mm vs) {tx : Int} (h1 : 0 ≤ tx) (h6 : tx ≤ 6) (hb : Below w.heap.size w w2) {v : Value} {w3 : World} {l : List Int} (ho : w3.ownsRow lo 3 1 v l.length (cellsI l)) (hg : w2.grownBy w3 (vs tx).ownBlock) (hv : v.ownBlock = (vs tx).ownBlock ∨ v.ownBlock = some w2.heap.size) :
    TreeH lo (w3.setCell ⟨g, 1 + tx.toNat, none⟩ v) g b { s with had := updF s.had tx l } mm (updF vs tx v) := by
  have h2 := h.below hb
  have hr := h.had tx h1 h6
  have hr2 := h2.had tx h1 h6
  have hz := hb.size
  have hB3 := h2.blk.grown hg (fun k hk => fun e => row_not_blk hr2 h2.blk (by decide) k hk e.symm)
  have hnb : ∀ k, v.ownBlock = some k → k ≠ g := row_not_blk ho hB3 (by decide)
  refine ⟨?_, h.gl, ?_, h.bl, h.hold, fun t t0 t6 => ?_, fun t u k t0 t6 u0 u6 hne hk => ?_⟩
  · have := hB3.put (1 + tx.toNat) v
    have e : (Value.map (some b) :: sevenT.map vs).set (1 + tx.toNat) v = Value.map (some b) :: sevenT.map (updF vs tx v) := by
      rw [← seven_set vs h1 h6 v, Nat.add_comm 1]; rfl
    rw [e] at this
    exact this
  · exact (h2.map.grown hg (fun k hk => fun e => map_not_row h2.map hr2 k hk e.symm)).set (p := ⟨g, 1 + tx.toNat, none⟩) (fun e => map_not_blk h.map h.blk e.symm) v
  · show World.ownsRow _ _ _ _ (updF vs tx v t) (updF s.had tx l t).length (cellsI (updF s.had tx l t))
    by_cases e : t = tx
    · rw [e, updF_self, updF_self]
      exact own_set_row ho hnb _ _
    · rw [updF_ne _ _ e, updF_ne _ _ e]
      have := own_grownOther (h2.had t t0 t6) hg (fun k hk e2 => h.apart t tx k t0 t6 h1 h6 e hk e2)
      exact own_set_row this (row_not_blk this hB3 (by decide)) _ _
  · by_cases et : t = tx
    · have eu : u ≠ tx := fun e => hne (et.trans e.symm)
      rw [updF_ne _ _ eu]
      rw [et, updF_self] at hk
      rcases hv with e | e
      · rw [e] at hk
        exact h.apart tx u k h1 h6 u0 u6 (fun e => eu e.symm) hk
      · intro hu
        rw [e] at hk
        injection hk with hk
        have := ((h.had u u0 u6).lt k hu).2
        omega
    · rw [updF_ne _ _ et] at hk
      by_cases eu : u = tx
      · rw [eu, updF_self]
        rcases hv with e | e
        · rw [e]; exact h.apart t tx k t0 t6 h1 h6 et hk
        · rw [e]
          intro e2
          injection e2 with e2
          have := ((h.had t t0 t6).lt k hk).2
          omega
      · rw [updF_ne _ _ eu]; exact h.apart t u k t0 t6 u0 u6 hne hk
end
end Go.Proofs.YtfmdeahblaikoaaDoor
