
/-
  ROWS OF OPS that are cut at their head and grow at their end.
-/
import Derived.Test.YtmamejkdheigjaaApp
import Derived.Test.YtmamejkdheigjaaMap
import Derived.ArgAppend

namespace Go.Proofs.Ytmamejkdheigjaa
open Go.RowKit

/-! ### Rows of ops that are cut at their head. -/
def QRow (w : World) (lo : Nat) (e : TypeId) (v : Value) (l : List HOp) : Prop :=
  (v = .slice none 0 0 ∧ l = []) ∨ ∃ g o c cur, v = .slice (some ⟨g, o, none⟩) l.length c ∧ lo ≤ g ∧ w.heap[g]? = some (.cells cur e (0, 0)) ∧ l.length ≤ c ∧ c ≤ maxLen ∧ o + c * 3 ≤ cur.size ∧ ∀ (j : Nat) (u : Value), (cellsH l)[j]? = some u → cur[o + j]? = some u
section
variable {w w' : World} {lo : Nat} {e : TypeId} {v : Value} {l : List HOp}
theorem QRow.nil (w : World) (lo : Nat) (e : TypeId) : QRow w lo e (.slice none 0 0) [] := .inl ⟨rfl, rfl⟩
theorem QRow.kept (h : QRow w lo e v l) (hk : ∀ g, v.ownBlock = some g → w'.heap[g]? = w.heap[g]?) : QRow w' lo e v l := by
  rcases h with h | ⟨g, o, c, cur, rfl, h2, h3, h4⟩
  · exact .inl h
  · exact .inr ⟨g, o, c, cur, rfl, h2, (hk g rfl).trans h3, h4⟩
theorem QRow.lt (h : QRow w lo e v l) {k : Nat} (hk : v.ownBlock = some k) : lo ≤ k ∧ k < w.heap.size := by
  rcases h with ⟨rfl, _⟩ | ⟨g, o, c, cur, rfl, h2, h3, h4⟩
  · cases hk
  · simp [Value.ownBlock] at hk
    subst hk
    exact ⟨h2, (Array.getElem?_eq_some_iff.1 h3).1⟩
theorem QRow.of_own {n : Nat} (h : w.ownsRow lo e 3 v n (cellsH l)) (hn : n = l.length) : QRow w lo e v l := by
  subst hn
  rcases h.2 with ⟨rfl, h0⟩ | ⟨g, cap, cur, rfl, hb, hh, hc, hm, hsz, hx⟩
  · exact .inl ⟨rfl, List.eq_nil_of_length_eq_zero h0⟩
  · refine .inr ⟨g, 0, cap, cur, rfl, hb, hh, hc, hm, by omega, fun j u hu => ?_⟩
    rw [← hx, List.getElem?_take] at hu
    split at hu
    · rw [Nat.zero_add]; simpa using hu
    · cases hu
theorem QRow.shape' (h : QRow w lo e v l) : ∃ A c, v = .slice A l.length c := by
  rcases h with ⟨rfl, rfl⟩ | ⟨g, o, c, cur, rfl, _⟩
  · exact ⟨none, 0, rfl⟩
  · exact ⟨_, c, rfl⟩
/-- Its first op. -/
theorem QRow.head {o : HOp} {t : List HOp} (h : QRow w lo e v (o :: t)) : ∃ g off c, v = .slice (some ⟨g, off, none⟩) (t.length + 1) c ∧ t.length + 1 ≤ c ∧ g < w.heap.size ∧ w.cell? ⟨g, off, none⟩ = some (.int .i64 o.tx) ∧ w.cell? ⟨g, off + 1, none⟩ = some (.int .i64 o.what) ∧ w.cell? ⟨g, off + 2, none⟩ = some (.int .i64 o.item) ∧
    QRow w lo e (.slice (some (if c = 1 then ⟨g, off, none⟩ else ⟨g, off + 3, none⟩)) t.length (c - 1)) t := by
  rcases h with ⟨_, h⟩ | ⟨g, off, c, cur, rfl, h2, h3, h4, h5, h6, h7⟩
  · cases h
  · rw [List.length_cons] at h4
    have hc : ∀ j u, (cellsH (o :: t))[j]? = some u → w.cell? ⟨g, off + j, none⟩ = some u := fun j u hu => by
      simp [World.cell?, h3, h7 j u hu]
    refine ⟨g, off, c, rfl, h4, (Array.getElem?_eq_some_iff.1 h3).1, hc 0 _ rfl, hc 1 _ rfl, hc 2 _ rfl, ?_⟩
    by_cases h1 : c = 1
    · have ht : t = [] := List.eq_nil_of_length_eq_zero (by omega)
      subst ht
      rw [if_pos h1]
      exact .inr ⟨g, off, c - 1, cur, rfl, h2, h3, by simp, by omega, by omega, fun j u hu => by simp [cellsH] at hu⟩
    · rw [if_neg h1]
      refine .inr ⟨g, off + 3, c - 1, cur, rfl, h2, h3, by omega, by omega, by omega, fun j u hu => ?_⟩
      have := h7 (j + 3) u (by simpa [cellsH] using hu)
      rw [show off + 3 + j = off + (j + 3) by omega]
      exact this
theorem run_qappH {P : Program} {t ty e : TypeId} (T : SlT P t e 3 24) (h : QRow w lo e v l) {B : Nat} {A : Option Addr} {c1 : Nat} {x : HOp} (hr : Rd w B 3 A 1 (cellsH [x])) (hb : (l.length + 1) * 24 ≤ 140737488355328) (hbase : lo ≤ w.heap.size) :
    ∃ v' w', (Builtin.append_ #[t, t] ty #[v, .slice A 1 c1]).run P w = .ok v' w' ∧ QRow w' lo e v' (l ++ [x]) ∧ w.grownBy w' v.ownBlock ∧ (v'.ownBlock = v.ownBlock ∨ ∃ k, v'.ownBlock = some k ∧ w.heap.size ≤ k) := by
  obtain ⟨b, off, rfl, _, hcl⟩ := hr.2 (by omega)
  rcases h with ⟨rfl, rfl⟩ | ⟨g, o, c, cur, rfl, h2, h3, h4, h5, h6, h7⟩
  · obtain ⟨v', w', hrun, h1, h2, h3, _⟩ := run_app (P := P) (ty := ty) (base := lo) (c := c1) T (World.ownsRow_nil w lo e 3) hr (oneH _) (by omega) hbase
    refine ⟨v', w', hrun, QRow.of_own (n := 0 + 1) (by simpa using h1) rfl, h2, ?_⟩
    exact h3.imp id fun h => ⟨_, h, Nat.le_refl _⟩
  · obtain ⟨i, z, ht, hi, hz, hsize, hby, hzs, h0, hb0, _⟩ := T
    have hnews : ∀ (j : Nat) (u : Value), (cellsH [x])[j]? = some u → w.cell? ((⟨b, off, none⟩ : Addr).add j) = some u := by
      intro j u hu
      have := hcl j u hu
      unfold Addr.add
      split
      · next h => subst h; simpa using this
      · exact this
    have hlt := (Array.getElem?_eq_some_iff.1 h3).1
    by_cases hroom : l.length + 1 ≤ c
    · have hin : ∀ j, j < 3 → o + l.length * 3 + j < cur.size := fun j hj => by omega
      have hr2 := run_append_room_cells (P := P) (w := w) t ty e i ht hi g o l.length c ⟨b, off, none⟩ 1 c1 (cellsH [x]) (by simp [hsize, cellsH]) hnews (oneH _) hroom
        (fun j hj => by
          have hj3 : j < 3 := by simpa [cellsH] using hj
          have := hin j hj3
          rw [hsize]
          simp [World.cell?, h3, this])
        (fun j hj => by simp [World.frozen?, h3])
      refine ⟨_, _, hr2, .inr ⟨g, o, c, ((cur.setIfInBounds (o + l.length * 3) (.int .i64 x.tx)).setIfInBounds (o + l.length * 3 + 1) (.int .i64 x.what)).setIfInBounds (o + l.length * 3 + 2) (.int .i64 x.item), by simp, h2, ?_, by simpa using hroom, h5, by simpa using h6, fun j u hj => ?_⟩, ?_, .inl rfl⟩
      · rw [hsize]
        simp [World.setCells, World.setCell, Array.getElem?_modify, h3, cellsH]
      · have e1 : cellsH (l ++ [x]) = cellsH l ++ cellsH [x] := by simp [cellsH]
        have e2 : (cellsH l).length = l.length * 3 := by rw [cellsH_length]
        rw [e1] at hj
        have i0 := hin 0 (by omega)
        have i1 := hin 1 (by omega)
        have i2 := hin 2 (by omega)
        rcases Nat.lt_or_ge j (l.length * 3) with hjl | hjl
        · rw [List.getElem?_append_left (by omega)] at hj
          rw [Array.getElem?_setIfInBounds, if_neg (by omega), Array.getElem?_setIfInBounds, if_neg (by omega), Array.getElem?_setIfInBounds, if_neg (by omega)]
          exact h7 j u hj
        · rw [List.getElem?_append_right (by omega), e2] at hj
          have hj3 : j - l.length * 3 < 3 := by
            have := (List.getElem?_eq_some_iff.1 hj).1
            simpa [cellsH] using this
          obtain ⟨r, hr⟩ : ∃ r, j = l.length * 3 + r := ⟨j - l.length * 3, by omega⟩
          subst hr
          rw [Nat.add_sub_cancel_left] at hj hj3
          match r, hj3, hj with
          | 0, _, hj =>
            obtain rfl : Value.int .i64 x.tx = u := by simpa [cellsH] using hj
            rw [Array.getElem?_setIfInBounds, if_neg (by omega), Array.getElem?_setIfInBounds, if_neg (by omega), Array.getElem?_setIfInBounds, if_pos (by omega), if_pos (by simpa using i0)]
          | 1, _, hj =>
            obtain rfl : Value.int .i64 x.what = u := by simpa [cellsH] using hj
            rw [Array.getElem?_setIfInBounds, if_neg (by omega), Array.getElem?_setIfInBounds, if_pos (by omega), if_pos (by simpa using i1)]
          | 2, _, hj =>
            obtain rfl : Value.int .i64 x.item = u := by simpa [cellsH] using hj
            rw [Array.getElem?_setIfInBounds, if_pos (by omega), if_pos (by simpa using i2)]
      · refine ⟨rfl, rfl, rfl, ?_, fun k hk hne => ?_⟩
        · simp [World.setCells, World.setCell, cellsH]
        · have hk2 : k ≠ g := fun e => hne (by rw [e]; rfl)
          simp only [cellsH, List.flatMap_cons, List.flatMap_nil, List.append_nil, World.setCells]
          rw [Below.heap_setCell _ _ _ k hk2, Below.heap_setCell _ _ _ k hk2, Below.heap_setCell _ _ _ k hk2]
    · have hcl2 : c = l.length := by omega
      have holds : ∀ j u, (cellsH l)[j]? = some u → w.cell? ((⟨g, o, none⟩ : Addr).add j) = some u := by
        intro j u hu
        have hj := h7 j u hu
        unfold Addr.add
        split
        · next h => subst h; simp only [Nat.add_zero] at hj; simp [World.cell?, h3, hj]
        · simp [World.cell?, h3, hj]
      obtain ⟨v', w', hrun, h8, h9⟩ := run_append_arg_grows (P := P) (w := w) t ty e i z 3 24 ht hi hz hsize hby hzs (by omega) ⟨g, o, none⟩ l.length c (cellsH l) (by rw [cellsH_length]) holds ⟨b, off, none⟩ 1 c1 (cellsH [x]) (by simp [cellsH]) hnews (by omega) (by unfold maxLen; omega) hb
      refine ⟨v', w', hrun, QRow.of_own (n := l.length + 1) ?_ (by simp), ⟨h9.os, h9.tape, h9.output, h9.size, fun k hk _ => h9.block k hk (by simp)⟩, .inr ?_⟩
      · have e1 : cellsH (l ++ [x]) = cellsH l ++ cellsH [x] := by simp [cellsH]
        rw [e1]
        exact own_mono h8 hbase
      · rcases h8.2 with ⟨_, h0⟩ | ⟨k, cap, cur', rfl, hk, _⟩
        · omega
        · exact ⟨k, rfl, hk⟩
end
end Go.Proofs.Ytmamejkdheigjaa
