
/-
  A QUEUE: a slice of the call's own that is cut at its head (q = q[1:]) and grows at its end: numbers.
  CONTRACT of graph.Reach.
  CONTRACT of graph.Ring.
-/
import Derived.Test.YtaaahfbcpgdoiaaGreatDoorQ0
import Derived.ArgAppend
import Derived.Test.YtaaahfbcpgdoiaaGreatDoorQ13

namespace Go.Proofs.YtaaahfbcpgdoiaaGreatDoor
open Go.RowKit

/-- The slice value '.slice (some ⟨g, o⟩) n c' is the call's own: block g from base on holds l's numbers from o on, with room for c. -/
def QOwn (w : World) (base : Nat) (e : TypeId) (v : Value) (l : List Int) : Prop :=
  ∃ g o c cur, v = .slice (some ⟨g, o, none⟩) l.length c ∧ base ≤ g ∧ w.heap[g]? = some (.cells cur e (0, 0)) ∧ l.length ≤ c ∧ c ≤ maxLen ∧ o + c ≤ cur.size ∧ ∀ (j : Nat) (x : Int), l[j]? = some x → cur[o + j]? = some (.int .i64 x)
section
variable {w w' : World} {base : Nat} {e : TypeId} {v : Value} {l : List Int}
theorem QOwn.kept (h : QOwn w base e v l) (hk : ∀ g, base ≤ g → g < w.heap.size → w'.heap[g]? = w.heap[g]?) : QOwn w' base e v l := by
  obtain ⟨g, o, c, cur, h1, h2, h3, h4⟩ := h
  exact ⟨g, o, c, cur, h1, h2, (hk g h2 (Array.getElem?_eq_some_iff.1 h3).1).trans h3, h4⟩
theorem QOwn.below (h : QOwn w base e v l) (hb : Below w.heap.size w w') : QOwn w' base e v l := h.kept fun g _ hg => hb.block g hg
theorem QOwn.alloc (h : QOwn w base e v l) (ob : Obj) : QOwn (w.alloc ob) base e v l := h.kept fun g _ hg => Below.heap_alloc w ob g hg
theorem QOwn.drewN (h : QOwn w base e v l) (q : Nat) : QOwn (w.drewN q) base e v l := h
theorem QOwn.far (h : QOwn w base e v l) {p : Addr} (hp : p.block < base) (u : Value) : QOwn (w.setCell p u) base e v l := h.kept fun g hg _ => Below.heap_setCell w p u g (by omega)
theorem QOwn.start (w : World) (e : TypeId) (x : Int) (hb : base ≤ w.heap.size) : QOwn (w.alloc (.cells #[.int .i64 x] e)) base e (.slice (some ⟨w.heap.size, 0, none⟩) 1 1) [x] :=
  ⟨w.heap.size, 0, 1, _, rfl, hb, heap_alloc_new w _, Nat.le_refl _, by decide, by simp, fun j y hj => by
    cases j with
    | zero => simp at hj; simp [hj]
    | succ j => simp at hj⟩
theorem QOwn.rd (h : QOwn w base e v l) : ∃ a c, v = .slice (some a) l.length c ∧ l.length ≤ c ∧ Rd w w.heap.size 1 (some a) l.length (cellsI l) := by
  obtain ⟨g, o, c, cur, h1, h2, h3, h4, h5, h6, h7⟩ := h
  refine ⟨_, c, h1, h4, by simp [cellsI], fun _ => ⟨g, o, rfl, (Array.getElem?_eq_some_iff.1 h3).1, fun j u hu => ?_⟩⟩
  rw [cellsI, List.getElem?_map] at hu
  cases hx : l[j]? with
  | none => rw [hx] at hu; cases hu
  | some x =>
    rw [hx] at hu
    simp only [World.cell?, h3, h7 j x hx]
    exact hu
/-- q[1:] -/
theorem QOwn.tail {x : Int} {t : List Int} {a : Addr} {n c : Nat} (h : QOwn w base e (.slice (some a) n c) (x :: t)) : n = t.length + 1 ∧ 1 ≤ c ∧ (c = 1 → QOwn w base e (.slice (some a) (n - 1) (c - 1)) t) ∧ (c ≠ 1 → QOwn w base e (.slice (some ⟨a.block, a.off + 1, none⟩) (n - 1) (c - 1)) t) := by
  obtain ⟨g, o, c', cur, h1, h2, h3, h4, h5, h6, h7⟩ := h
  injection h1 with e1 e2 e3
  injection e1 with e1
  subst e1 e3
  simp only [List.length_cons] at e2 h4
  subst e2
  refine ⟨rfl, by omega, fun hc => ?_, fun hc => ?_⟩
  · have ht : t = [] := List.eq_nil_of_length_eq_zero (by omega)
    subst ht
    exact ⟨g, o, c - 1, cur, rfl, h2, h3, by simp, by omega, by omega, by simp⟩
  · refine ⟨g, o + 1, c - 1, cur, by simp, h2, h3, by omega, by omega, by omega, fun j y hj => ?_⟩
    have := h7 (j + 1) y (by simpa using hj)
    rw [show o + 1 + j = o + (j + 1) by omega]; exact this
end

theorem run_qapp {P : Program} {w : World} {t ty e : TypeId} {base : Nat} (T : SlT P t e 1 8) {v : Value} {l : List Int} (h : QOwn w base e v l) {ad : Addr} {c1 : Nat} {x : Int} (hx : w.cell? ad = some (.int .i64 x)) (hb : (l.length + 1) * 8 ≤ 140737488355328) (hbase : base ≤ w.heap.size) :
    ∃ v' w', (Builtin.append_ #[t, t] ty #[v, .slice (some ad) 1 c1]).run P w = .ok v' w' ∧ QOwn w' base e v' (l ++ [x]) ∧ Below base w w' := by
  obtain ⟨i, z, ht, hi, hz, hsize, hby, hzs, h0, hb0, _⟩ := T
  obtain ⟨g, o, c, cur, rfl, h2, h3, h4, h5, h6, h7⟩ := h
  have hlt := (Array.getElem?_eq_some_iff.1 h3).1
  have hnews : ∀ (j : Nat) (u : Value), ([Value.int .i64 x] : List Value)[j]? = some u → w.cell? (ad.add j) = some u := by
    intro j u hu
    cases j with
    | zero => simp at hu; rw [← hu]; exact hx
    | succ j => simp at hu
  by_cases hroom : l.length + 1 ≤ c
  · have hin : o + l.length < cur.size := by omega
    have hr := run_append_room_cells (P := P) (w := w) t ty e i ht hi g o l.length c ad 1 c1 [.int .i64 x] (by simp [hsize]) hnews (one1 rfl) hroom
      (fun j hj => by
        have hj0 : j = 0 := by simpa using hj
        subst hj0
        simp [World.cell?, h3, hsize, hin])
      (fun j hj => by simp [World.frozen?, h3])
    refine ⟨_, _, hr, ⟨g, o, c, cur.setIfInBounds (o + l.length) (.int .i64 x), by simp, h2, ?_, by simpa using hroom, h5, by simpa using h6, fun j y hj => ?_⟩, ?_⟩
    · rw [hsize, Nat.mul_one]
      simp [World.setCells, World.setCell, Array.getElem?_modify, h3]
    · rw [Array.getElem?_setIfInBounds]
      rcases Nat.lt_or_ge j l.length with hjl | hjl
      · rw [List.getElem?_append_left hjl] at hj
        rw [if_neg (by omega)]; exact h7 j y hj
      · rw [List.getElem?_append_right hjl] at hj
        have hj0 : j = l.length := by
          rcases Nat.eq_zero_or_pos (j - l.length) with h | h
          · omega
          · rw [List.getElem?_eq_none (by simp; omega)] at hj; cases hj
        subst hj0
        simp at hj
        simp [hin, hj]
    · rw [hsize, Nat.mul_one]
      simp only [World.setCells]
      exact (Below.refl _ _).setCell (p := ⟨g, o + l.length, none⟩) h2 _
  · have hcl : c = l.length := by omega
    have holds : ∀ j u, (cellsI l)[j]? = some u → w.cell? ((⟨g, o, none⟩ : Addr).add j) = some u := by
      intro j u hu
      rw [cellsI, List.getElem?_map] at hu
      cases hy : l[j]? with
      | none => rw [hy] at hu; cases hu
      | some y =>
        rw [hy] at hu
        have hj := h7 j y hy
        unfold Addr.add
        split
        · next h => subst h; simp only [Nat.add_zero] at hj; simp only [World.cell?, h3, hj]; exact hu
        · simp only [World.cell?, h3, hj]; exact hu
    have hr := run_append_grow (P := P) w t ty e i z ht hi hz ⟨g, o, none⟩ l.length c (cellsI l) (by simp [cellsI, hsize]) holds ad 1 c1 [.int .i64 x] (by simp [hsize]) hnews (by omega) (by omega) (by rw [hby]; exact growslice_fits (by omega) hb)
    have hge := grownCap_ge w (l.length + 1) c e
    have hcm := grownCap_le_maxLen w (l.length + 1) c e (by unfold maxLen; omega)
    refine ⟨_, _, hr, ⟨w.heap.size, 0, _, _, by simp, hbase, heap_alloc_new w.drew _, by simpa using hge, hcm, ?_, fun j y hj => ?_⟩, ?_⟩
    · simp only [Array.size_append, List.size_toArray, size_zeroCells, hzs, cellsI, List.length_map, List.length_cons, List.length_nil]; omega
    · rw [Nat.zero_add]
      have hjl : j < l.length + 1 := by have := (List.getElem?_eq_some_iff.1 hj).1; simpa using this
      rw [Array.getElem?_append_left (by simp [cellsI]; omega)]
      have e1 : (cellsI l).toArray ++ ([Value.int .i64 x] : List Value).toArray = (cellsI (l ++ [x])).toArray := by simp [cellsI]
      rw [e1, List.getElem?_toArray, cellsI, List.getElem?_map, hj]; rfl
    · exact ((Below.refl base w).drew).alloc (by simpa using hbase) _
theorem wpList_qapp {P : Program} {w : World} {ops : Array Oper} {rest : List Oper} {o : Oper} {a : Act} {Q : Exit → Act → World → Prop} (hgd : o.guard = none) (s x : Operand) (t : TypeId)
    (ho : o.op = .call { callee := .builtin .append, args := #[s, x], argTypes := #[t, t] })
    {e : TypeId} (base : Nat) (T : SlT P t e 1 8) {v : Value} {l : List Int} (hs : a.eval s = v) (hown : QOwn w base e v l) {ad : Addr} {c1 : Nat} {y : Int} (hx : a.eval x = .slice (some ad) 1 c1) (hc : w.cell? ad = some (.int .i64 y))
    (hb : (l.length + 1) * 8 ≤ 140737488355328) (hbase : base ≤ w.heap.size)
    (h : ∀ v' w', QOwn w' base e v' (l ++ [y]) → Below base w w' → wpList P ops Q rest (a.put o.dst v') w') : wpList P ops Q (o :: rest) a w :=
  wpList_plain hgd fun _ hK => by
    obtain ⟨v', w', hrun, h2, h3⟩ := run_qapp (P := P) (ty := o.type) (c1 := c1) T hown hc hb hbase
    unfold Oper.wp execOp
    simp only [ho, resolve, invoke, builtin, Sem.run_bind, Sem.run_pure, Result.andThen_ok, List.map_toArray, List.map_cons, List.map_nil, hs, hx, hrun]
    exact hK _ _ (h v' w' h2 h3)
end Go.Proofs.YtaaahfbcpgdoiaaGreatDoor


namespace Go.Proofs.YtaaahfbcpgdoiaaGreatDoor
open Go.RowKit

def bfsIn (d : Int) : List Bool → List Int → List (Int × Int) → List Bool × List Int
  | seen, row, [] => (seen, row)
  | seen, row, e :: t => if e.1 ≠ d ∨ seen.getD e.2.toNat false = true then bfsIn d seen row t else bfsIn d (seen.set e.2.toNat true) (row ++ [e.2]) t
def bfsGo (E : List (Int × Int)) : Nat → List Bool → List Int → List Bool
  | 0, seen, _ => seen
  | _ + 1, seen, [] => seen
  | f + 1, seen, d :: r => bfsGo E f (bfsIn d seen (d :: r) E).1 (bfsIn d seen (d :: r) E).2.tail
def reachF (E : List (Int × Int)) (a b : Int) : Bool := (bfsGo E 8 (List.replicate 7 false) [a]).getD b.toNat false
theorem bfsIn_step {d : Int} {seen : List Bool} {row : List Int} {e : Int × Int} {l t : List (Int × Int)} (h : l = e :: t) : bfsIn d seen row l = if e.1 ≠ d ∨ seen.getD e.2.toNat false = true then bfsIn d seen row t else bfsIn d (seen.set e.2.toNat true) (row ++ [e.2]) t := by rw [h, bfsIn]
def falses (l : List Bool) : Nat := l.countP fun b => !b
theorem falses_set : ∀ {l : List Bool} {i : Nat}, l[i]? = some false → falses (l.set i true) + 1 = falses l
  | [], i, h => by simp at h
  | b :: t, 0, h => by
    obtain rfl : b = false := by simpa using h
    simp [falses]
  | b :: t, i + 1, h => by
    have := falses_set (l := t) (i := i) (by simpa using h)
    unfold falses at this ⊢
    rw [List.set_cons_succ, List.countP_cons, List.countP_cons]; omega
def wfalse (w : World) (g : Nat) : Nat := match w.heap[g]? with
  | some (.cells cur _ _) => cur.toList.countP fun v => match v with | .bool false => true | _ => false
  | _ => 0
theorem wfalse_blk {w : World} {g : Nat} {t : TypeId} {l : List Bool} (h : Blk w g t (l.map .bool)) : wfalse w g = falses l := by
  unfold wfalse
  rw [show w.heap[g]? = _ from h]
  simp only [falses, List.countP_map]
  congr 1
  funext b
  cases b <;> rfl

end Go.Proofs.YtaaahfbcpgdoiaaGreatDoor


namespace Go.Proofs.YtaaahfbcpgdoiaaGreatDoor
open Go.RowKit

def ringOf (E : List (Int × Int)) (many : Int) : Option (List Int) := tryGo (fun d => roundGo E (many.toNat - 1) [d]) 6 1
def ringF (E : List (Int × Int)) : Option (List Int) := tryGo (ringOf E) 6 1
def RingPost (E : List (Int × Int)) (w : World) (e : Ending) (w' : World) : Prop :=
  Below w.heap.size w w' ∧ ((ringF E = none ∧ e = .returned (.tuple #[.slice none 0 0, errV 5])) ∨ ∃ L a n c, ringF E = some L ∧ e = .returned (.tuple #[.slice (some a) n c, .nilIface]) ∧ Rd w' w'.heap.size 1 (some a) n (cellsI L))

end Go.Proofs.YtaaahfbcpgdoiaaGreatDoor
