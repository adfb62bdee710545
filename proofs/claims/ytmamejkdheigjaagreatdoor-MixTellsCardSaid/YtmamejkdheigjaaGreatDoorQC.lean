
/-
  WHAT TURNED: of what was there only the blocks of a set.
  ROWS OF OPS that are cut at their head and grow at their end.
-/
import Derived.Test.YtmamejkdheigjaaGreatDoorApp
import Derived.Test.YtmamejkdheigjaaGreatDoorMap
import Derived.ArgAppend

namespace Go.Proofs.YtmamejkdheigjaaGreatDoor
open Go.RowKit

/-- Of what was there only the blocks of S have turned. -/
structure Chg (S : Nat → Prop) (w w' : World) : Prop where
  os : w'.os = w.os
  tape : w'.tape = w.tape
  output : w'.output = w.output
  size : w.heap.size ≤ w'.heap.size
  block : ∀ k, k < w.heap.size → ¬ S k → w'.heap[k]? = w.heap[k]?
theorem Chg.below {S : Nat → Prop} {w w' : World} {lo : Nat} (h : Chg S w w') (hS : ∀ k, S k → lo ≤ k) (hlo : lo ≤ w.heap.size) : Below lo w w' :=
  ⟨h.os, h.tape, h.output, h.size, fun k hk => h.block k (by omega) (fun hs => by have := hS k hs; omega)⟩
theorem Chg.of_below {S : Nat → Prop} {w w' : World} (h : Below w.heap.size w w') : Chg S w w' := ⟨h.os, h.tape, h.output, h.size, fun k hk _ => h.block k hk⟩
theorem Chg.mono {S S' : Nat → Prop} {w w' : World} (h : Chg S w w') (hS : ∀ k, S k → S' k ∨ w.heap.size ≤ k) : Chg S' w w' :=
  ⟨h.os, h.tape, h.output, h.size, fun k hk hn => h.block k hk (fun hs => by rcases hS k hs with h1 | h1; exact hn h1; omega)⟩
theorem Chg.trans {S : Nat → Prop} {a b c : World} (h : Chg S a b) (k : Chg S b c) : Chg S a c :=
  ⟨k.os.trans h.os, k.tape.trans h.tape, k.output.trans h.output, Nat.le_trans h.size k.size, fun i hi hn => (k.block i (Nat.lt_of_lt_of_le hi h.size) hn).trans (h.block i hi hn)⟩
theorem Chg.set {S : Nat → Prop} {a w : World} (h : Chg S a w) {p : Addr} (hp : S p.block ∨ a.heap.size ≤ p.block) (u : Value) : Chg S a (w.setCell p u) :=
  ⟨h.os, h.tape, h.output, by simpa [World.setCell] using h.size, fun i hi hn => (Below.heap_setCell w p u i (fun e => by rw [e] at hi hn; rcases hp with h1 | h1; exact hn h1; omega)).trans (h.block i hi hn)⟩
theorem Chg.alloc {S : Nat → Prop} {a w : World} (h : Chg S a w) (o : Obj) : Chg S a (w.alloc o) :=
  ⟨h.os, h.tape, h.output, by have := h.size; simp; omega, fun i hi hn => (Below.heap_alloc w o i (Nat.lt_of_lt_of_le hi h.size)).trans (h.block i hi hn)⟩
theorem Chg.drew {S : Nat → Prop} {a w : World} (h : Chg S a w) : Chg S a w.drew := ⟨h.os, h.tape, h.output, h.size, h.block⟩
theorem Chg.drewN {S : Nat → Prop} {a w : World} (h : Chg S a w) (n : Nat) : Chg S a (w.drewN n) := ⟨h.os, h.tape, h.output, h.size, h.block⟩
theorem Chg.grown {S : Nat → Prop} {a w w' : World} {row : Option Nat} (h : Chg S a w) (hg : w.grownBy w' row) (hr : ∀ k, row = some k → S k ∨ a.heap.size ≤ k) : Chg S a w' :=
  ⟨hg.os.trans h.os, hg.tape.trans h.tape, hg.output.trans h.output, Nat.le_trans h.size hg.size, fun i hi hn => (hg.block i (Nat.lt_of_lt_of_le hi h.size) (fun e => by rcases hr i e.symm with h1 | h1; exact hn h1; omega)).trans (h.block i hi hn)⟩
theorem Chg.refl (S : Nat → Prop) (w : World) : Chg S w w := ⟨rfl, rfl, rfl, Nat.le_refl _, fun _ _ _ => rfl⟩
theorem Chg.then_below {S : Nat → Prop} {a b c : World} (h : Chg S a b) (k : Below b.heap.size b c) : Chg S a c := h.trans (Chg.of_below k)

theorem Chg.next {S S' : Nat → Prop} {a b c : World} (h : Chg S a b) (k : Chg S' b c) (hs : ∀ i, S' i → S i ∨ a.heap.size ≤ i) : Chg S a c :=
  ⟨k.os.trans h.os, k.tape.trans h.tape, k.output.trans h.output, Nat.le_trans h.size k.size, fun i hi hn => (k.block i (Nat.lt_of_lt_of_le hi h.size) (fun h1 => by rcases hs i h1 with h2 | h2; exact hn h2; omega)).trans (h.block i hi hn)⟩
theorem own_chg {S : Nat → Prop} {w w' : World} {base : Nat} {e : TypeId} {size : Nat} {v : Value} {n : Nat} {xs : List Value} (h : w.ownsRow base e size v n xs) (hb : Chg S w w') (hs : ∀ k, v.ownBlock = some k → ¬ S k) : w'.ownsRow base e size v n xs := by
  refine ⟨h.1, ?_⟩
  rcases h.2 with hn | ⟨g, cap, cur, rfl, hbb, hgg, rest⟩
  · exact .inl hn
  · refine .inr ⟨g, cap, cur, rfl, hbb, ?_, rest⟩
    rw [hb.block g (Array.getElem?_eq_some_iff.1 hgg).1 (hs g rfl)]
    exact hgg
theorem own_same {w w' : World} {base : Nat} {e : TypeId} {size : Nat} {v : Value} {n : Nat} {xs : List Value} (h : w.ownsRow base e size v n xs) (hs : ∀ k, v.ownBlock = some k → w'.heap[k]? = w.heap[k]?) : w'.ownsRow base e size v n xs := by
  refine ⟨h.1, ?_⟩
  rcases h.2 with hn | ⟨g, cap, cur, rfl, hbb, hgg, rest⟩
  · exact .inl hn
  · exact .inr ⟨g, cap, cur, rfl, hbb, (hs g rfl).trans hgg, rest⟩
theorem Blk.chg {S : Nat → Prop} {w w' : World} {g : Nat} {t : TypeId} {cs : List Value} (h : Blk w g t cs) (hb : Chg S w w') (hs : ¬ S g) : Blk w' g t cs := (hb.block g h.lt hs).trans h
theorem step_app2 {P : Program} {w : World} {ops : Array Oper} {o : Oper} {a : Act} {K : Act → World → Prop} {Q : Exit → Act → World → Prop} {E : Prop} (hgd : o.guard = none) (s x : Operand) (t : TypeId)
    (ho : o.op = .call { callee := .builtin .append, args := #[s, x], argTypes := #[t, t] })
    {e : TypeId} {size bytes : Nat} (base : Nat) (T : SlT P t e size bytes) {v : Value} {n : Nat} {xs : List Value} (hs : a.eval s = v) (hown : w.ownsRow base e size v n xs)
    {B : Nat} {A : Option Addr} {m c : Nat} {news : List Value} (hx : a.eval x = .slice A m c) (hr : Rd w B size A m news) (h1 : ∀ u ∈ news, u.oneCell' = true) (hbytes : (n + m) * bytes ≤ 140737488355328) (hbase : base ≤ w.heap.size)
    (h : ∀ v' w', w'.ownsRow base e size v' (n + m) (xs ++ news) → w.grownBy w' v.ownBlock → (v'.ownBlock = v.ownBlock ∨ v'.ownBlock = some w.heap.size) → K (a.put o.dst v') w') :
    if Region.wanted o (yielded ops a.tmps) = true then Oper.wp P o a w K Q else E := by
  rw [if_pos (by simp [Region.wanted, hgd])]
  exact wp_app s x t ho base T hs hown hx hr h1 hbytes hbase fun v' w' h2 h3 _ h5 _ => h v' w' h2 h3 h5
/-- A row stays while a block of another type is written. -/
theorem own_set_blk {w : World} {base : Nat} {e t : TypeId} {size : Nat} {v : Value} {n g : Nat} {xs cs : List Value} (h : w.ownsRow base e size v n xs) (hB : Blk w g t cs) (hne : t ≠ e) (i : Nat) (u : Value) : (w.setCell ⟨g, i, none⟩ u).ownsRow base e size v n xs := by
  refine h.kept (row := some g) ⟨rfl, rfl, rfl, by simp [World.setCell], fun k _ hk => Below.heap_setCell w _ u k (fun e => hk (by rw [e]))⟩ ?_
  rcases h.2 with ⟨rfl, _⟩ | ⟨g', cap, cur, rfl, _, hh, _⟩
  · exact .inl rfl
  · right
    intro he
    simp [Value.ownBlock] at he
    subst he
    unfold Blk at hB
    rw [hB] at hh
    injection hh with hh
    injection hh with _ ht
    exact hne ht
end Go.Proofs.YtmamejkdheigjaaGreatDoor


namespace Go.Proofs.YtmamejkdheigjaaGreatDoor
open Go.RowKit

/-! ### Rows of ops that are cut at their head. -/
def QRow (w : World) (lo : Nat) (e : TypeId) (v : Value) (l : List HOp) : Prop :=
  (v = .slice none 0 0 ∧ l = []) ∨ ∃ g o c cur, v = .slice (some ⟨g, o, none⟩) l.length c ∧ lo ≤ g ∧ w.heap[g]? = some (.cells cur e (0, 0)) ∧ l.length ≤ c ∧ c ≤ maxLen ∧ o + c * 3 ≤ cur.size ∧ ∀ (j : Nat) (u : Value), (cellsH l)[j]? = some u → cur[o + j]? = some u
section
variable {w w' : World} {lo : Nat} {e : TypeId} {v : Value} {l : List HOp}
theorem QRow.nil (w : World) (lo : Nat) (e : TypeId) : QRow w lo e (.slice none 0 0) [] := .inl ⟨rfl, rfl⟩
theorem QRow.kept (h : QRow w lo e v l) (hk : ∀ g, v.ownBlock = some g → w'.heap[g]? = w.heap[g]?) : QRow w' lo e v l := by
  rcases h with h | ⟨g, o, c, cur, rfl, h2, h3, h4⟩
  · exact .inl h
  · exact .inr ⟨g, o, c, cur, rfl, h2, (hk g rfl).trans h3, h4⟩
theorem QRow.lt (h : QRow w lo e v l) {k : Nat} (hk : v.ownBlock = some k) : lo ≤ k ∧ k < w.heap.size := by
  rcases h with ⟨rfl, _⟩ | ⟨g, o, c, cur, rfl, h2, h3, h4⟩
  · cases hk
  · simp [Value.ownBlock] at hk
    subst hk
    exact ⟨h2, (Array.getElem?_eq_some_iff.1 h3).1⟩
theorem QRow.of_own {n : Nat} (h : w.ownsRow lo e 3 v n (cellsH l)) (hn : n = l.length) : QRow w lo e v l := by
  subst hn
  rcases h.2 with ⟨rfl, h0⟩ | ⟨g, cap, cur, rfl, hb, hh, hc, hm, hsz, hx⟩
  · exact .inl ⟨rfl, List.eq_nil_of_length_eq_zero h0⟩
  · refine .inr ⟨g, 0, cap, cur, rfl, hb, hh, hc, hm, by omega, fun j u hu => ?_⟩
    rw [← hx, List.getElem?_take] at hu
    split at hu
    · rw [Nat.zero_add]; simpa using hu
    · cases hu
theorem QRow.shape' (h : QRow w lo e v l) : ∃ A c, v = .slice A l.length c := by
  rcases h with ⟨rfl, rfl⟩ | ⟨g, o, c, cur, rfl, _⟩
  · exact ⟨none, 0, rfl⟩
  · exact ⟨_, c, rfl⟩
/-- Its first op. -/
theorem QRow.head {o : HOp} {t : List HOp} (h : QRow w lo e v (o :: t)) : ∃ g off c, v = .slice (some ⟨g, off, none⟩) (t.length + 1) c ∧ t.length + 1 ≤ c ∧ g < w.heap.size ∧ w.cell? ⟨g, off, none⟩ = some (.int .i64 o.tx) ∧ w.cell? ⟨g, off + 1, none⟩ = some (.int .i64 o.what) ∧ w.cell? ⟨g, off + 2, none⟩ = some (.int .i64 o.item) ∧
    QRow w lo e (.slice (some (if c = 1 then ⟨g, off, none⟩ else ⟨g, off + 3, none⟩)) t.length (c - 1)) t := by
  rcases h with ⟨_, h⟩ | ⟨g, off, c, cur, rfl, h2, h3, h4, h5, h6, h7⟩
  · cases h
  · rw [List.length_cons] at h4
    have hc : ∀ j u, (cellsH (o :: t))[j]? = some u → w.cell? ⟨g, off + j, none⟩ = some u := fun j u hu => by
      simp [World.cell?, h3, h7 j u hu]
    refine ⟨g, off, c, rfl, h4, (Array.getElem?_eq_some_iff.1 h3).1, hc 0 _ rfl, hc 1 _ rfl, hc 2 _ rfl, ?_⟩
    by_cases h1 : c = 1
    · have ht : t = [] := List.eq_nil_of_length_eq_zero (by omega)
      subst ht
      rw [if_pos h1]
      exact .inr ⟨g, off, c - 1, cur, rfl, h2, h3, by simp, by omega, by omega, fun j u hu => by simp [cellsH] at hu⟩
    · rw [if_neg h1]
      refine .inr ⟨g, off + 3, c - 1, cur, rfl, h2, h3, by omega, by omega, by omega, fun j u hu => ?_⟩
      have := h7 (j + 3) u (by simpa [cellsH] using hu)
      rw [show off + 3 + j = off + (j + 3) by omega]
      exact this
theorem run_qappH {P : Program} {t ty e : TypeId} (T : SlT P t e 3 24) (h : QRow w lo e v l) {B : Nat} {A : Option Addr} {c1 : Nat} {x : HOp} (hr : Rd w B 3 A 1 (cellsH [x])) (hb : (l.length + 1) * 24 ≤ 140737488355328) (hbase : lo ≤ w.heap.size) :
    ∃ v' w', (Builtin.append_ #[t, t] ty #[v, .slice A 1 c1]).run P w = .ok v' w' ∧ QRow w' lo e v' (l ++ [x]) ∧ w.grownBy w' v.ownBlock ∧ (v'.ownBlock = v.ownBlock ∨ ∃ k, v'.ownBlock = some k ∧ w.heap.size ≤ k) := by
  obtain ⟨b, off, rfl, _, hcl⟩ := hr.2 (by omega)
  rcases h with ⟨rfl, rfl⟩ | ⟨g, o, c, cur, rfl, h2, h3, h4, h5, h6, h7⟩
  · obtain ⟨v', w', hrun, h1, h2, h3, _⟩ := run_app (P := P) (ty := ty) (base := lo) (c := c1) T (World.ownsRow_nil w lo e 3) hr (oneH _) (by omega) hbase
    refine ⟨v', w', hrun, QRow.of_own (n := 0 + 1) (by simpa using h1) rfl, h2, ?_⟩
    exact h3.imp id fun h => ⟨_, h, Nat.le_refl _⟩
  · obtain ⟨i, z, ht, hi, hz, hsize, hby, hzs, h0, hb0, _⟩ := T
    have hnews : ∀ (j : Nat) (u : Value), (cellsH [x])[j]? = some u → w.cell? ((⟨b, off, none⟩ : Addr).add j) = some u := by
      intro j u hu
      have := hcl j u hu
      unfold Addr.add
      split
      · next h => subst h; simpa using this
      · exact this
    have hlt := (Array.getElem?_eq_some_iff.1 h3).1
    by_cases hroom : l.length + 1 ≤ c
    · have hin : ∀ j, j < 3 → o + l.length * 3 + j < cur.size := fun j hj => by omega
      have hr2 := run_append_room_cells (P := P) (w := w) t ty e i ht hi g o l.length c ⟨b, off, none⟩ 1 c1 (cellsH [x]) (by simp [hsize, cellsH]) hnews (oneH _) hroom
        (fun j hj => by
          have hj3 : j < 3 := by simpa [cellsH] using hj
          have := hin j hj3
          rw [hsize]
          simp [World.cell?, h3, this])
        (fun j hj => by simp [World.frozen?, h3])
      refine ⟨_, _, hr2, .inr ⟨g, o, c, ((cur.setIfInBounds (o + l.length * 3) (.int .i64 x.tx)).setIfInBounds (o + l.length * 3 + 1) (.int .i64 x.what)).setIfInBounds (o + l.length * 3 + 2) (.int .i64 x.item), by simp, h2, ?_, by simpa using hroom, h5, by simpa using h6, fun j u hj => ?_⟩, ?_, .inl rfl⟩
      · rw [hsize]
        simp [World.setCells, World.setCell, Array.getElem?_modify, h3, cellsH]
      · have e1 : cellsH (l ++ [x]) = cellsH l ++ cellsH [x] := by simp [cellsH]
        have e2 : (cellsH l).length = l.length * 3 := by rw [cellsH_length]
        rw [e1] at hj
        have i0 := hin 0 (by omega)
        have i1 := hin 1 (by omega)
        have i2 := hin 2 (by omega)
        rcases Nat.lt_or_ge j (l.length * 3) with hjl | hjl
        · rw [List.getElem?_append_left (by omega)] at hj
          rw [Array.getElem?_setIfInBounds, if_neg (by omega), Array.getElem?_setIfInBounds, if_neg (by omega), Array.getElem?_setIfInBounds, if_neg (by omega)]
          exact h7 j u hj
        · rw [List.getElem?_append_right (by omega), e2] at hj
          have hj3 : j - l.length * 3 < 3 := by
            have := (List.getElem?_eq_some_iff.1 hj).1
            simpa [cellsH] using this
          obtain ⟨r, hr⟩ : ∃ r, j = l.length * 3 + r := ⟨j - l.length * 3, by omega⟩
          subst hr
          rw [Nat.add_sub_cancel_left] at hj hj3
          match r, hj3, hj with
          | 0, _, hj =>
            obtain rfl : Value.int .i64 x.tx = u := by simpa [cellsH] using hj
            rw [Array.getElem?_setIfInBounds, if_neg (by omega), Array.getElem?_setIfInBounds, if_neg (by omega), Array.getElem?_setIfInBounds, if_pos (by omega), if_pos (by simpa using i0)]
          | 1, _, hj =>
            obtain rfl : Value.int .i64 x.what = u := by simpa [cellsH] using hj
            rw [Array.getElem?_setIfInBounds, if_neg (by omega), Array.getElem?_setIfInBounds, if_pos (by omega), if_pos (by simpa using i1)]
          | 2, _, hj =>
            obtain rfl : Value.int .i64 x.item = u := by simpa [cellsH] using hj
            rw [Array.getElem?_setIfInBounds, if_pos (by omega), if_pos (by simpa using i2)]
      · refine ⟨rfl, rfl, rfl, ?_, fun k hk hne => ?_⟩
        · simp [World.setCells, World.setCell, cellsH]
        · have hk2 : k ≠ g := fun e => hne (by rw [e]; rfl)
          simp only [cellsH, List.flatMap_cons, List.flatMap_nil, List.append_nil, World.setCells]
          rw [Below.heap_setCell _ _ _ k hk2, Below.heap_setCell _ _ _ k hk2, Below.heap_setCell _ _ _ k hk2]
    · have hcl2 : c = l.length := by omega
      have holds : ∀ j u, (cellsH l)[j]? = some u → w.cell? ((⟨g, o, none⟩ : Addr).add j) = some u := by
        intro j u hu
        have hj := h7 j u hu
        unfold Addr.add
        split
        · next h => subst h; simp only [Nat.add_zero] at hj; simp [World.cell?, h3, hj]
        · simp [World.cell?, h3, hj]
      obtain ⟨v', w', hrun, h8, h9⟩ := run_append_arg_grows (P := P) (w := w) t ty e i z 3 24 ht hi hz hsize hby hzs (by omega) ⟨g, o, none⟩ l.length c (cellsH l) (by rw [cellsH_length]) holds ⟨b, off, none⟩ 1 c1 (cellsH [x]) (by simp [cellsH]) hnews (by omega) (by unfold maxLen; omega) hb
      refine ⟨v', w', hrun, QRow.of_own (n := l.length + 1) ?_ (by simp), ⟨h9.os, h9.tape, h9.output, h9.size, fun k hk _ => h9.block k hk (by simp)⟩, .inr ?_⟩
      · have e1 : cellsH (l ++ [x]) = cellsH l ++ cellsH [x] := by simp [cellsH]
        rw [e1]
        exact own_mono h8 hbase
      · rcases h8.2 with ⟨_, h0⟩ | ⟨k, cap, cur', rfl, hk, _⟩
        · omega
        · exact ⟨k, rfl, hk⟩
end
end Go.Proofs.YtmamejkdheigjaaGreatDoor
