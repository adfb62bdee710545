
/-
  A TABLE OF LOCKS in memory: what its block and its two rows hold. CONTRACTS of locks.New, waiting, Held, Waits, hold.
-/
import Derived.Test.YtjbgjgmdgjnbfaaDoorLocks
import Derived.Deep.RegionHeld3
import Derived.Deep.RegionLaw
import Derived.RegionTactic
import Derived.BigRegion

namespace Go.Proofs.YtjbgjgmdgjnbfaaDoor
open Go.RowKit

/-- Of what was there only the blocks of S have turned. -/
structure Chg (S : Nat → Prop) (w w' : World) : Prop where
  os : w'.os = w.os
  tape : w'.tape = w.tape
  output : w'.output = w.output
  size : w.heap.size ≤ w'.heap.size
  block : ∀ k, k < w.heap.size → ¬ S k → w'.heap[k]? = w.heap[k]?
theorem Chg.below {S : Nat → Prop} {w w' : World} {lo : Nat} (h : Chg S w w') (hS : ∀ k, S k → lo ≤ k) (hlo : lo ≤ w.heap.size) : Below lo w w' :=
  ⟨h.os, h.tape, h.output, h.size, fun k hk => h.block k (by omega) (fun hs => by have := hS k hs; omega)⟩
theorem Chg.of_below {S : Nat → Prop} {w w' : World} (h : Below w.heap.size w w') : Chg S w w' := ⟨h.os, h.tape, h.output, h.size, fun k hk _ => h.block k hk⟩
theorem Chg.mono {S S' : Nat → Prop} {w w' : World} (h : Chg S w w') (hS : ∀ k, S k → S' k ∨ w.heap.size ≤ k) : Chg S' w w' :=
  ⟨h.os, h.tape, h.output, h.size, fun k hk hn => h.block k hk (fun hs => by rcases hS k hs with h1 | h1; exact hn h1; omega)⟩
theorem Chg.trans {S : Nat → Prop} {a b c : World} (h : Chg S a b) (k : Chg S b c) : Chg S a c :=
  ⟨k.os.trans h.os, k.tape.trans h.tape, k.output.trans h.output, Nat.le_trans h.size k.size, fun i hi hn => (k.block i (Nat.lt_of_lt_of_le hi h.size) hn).trans (h.block i hi hn)⟩
theorem Chg.set {S : Nat → Prop} {a w : World} (h : Chg S a w) {p : Addr} (hp : S p.block ∨ a.heap.size ≤ p.block) (u : Value) : Chg S a (w.setCell p u) :=
  ⟨h.os, h.tape, h.output, by simpa [World.setCell] using h.size, fun i hi hn => (Below.heap_setCell w p u i (fun e => by rw [e] at hi hn; rcases hp with h1 | h1; exact hn h1; omega)).trans (h.block i hi hn)⟩
theorem Chg.alloc {S : Nat → Prop} {a w : World} (h : Chg S a w) (o : Obj) : Chg S a (w.alloc o) :=
  ⟨h.os, h.tape, h.output, by have := h.size; simp; omega, fun i hi hn => (Below.heap_alloc w o i (Nat.lt_of_lt_of_le hi h.size)).trans (h.block i hi hn)⟩
theorem Chg.drew {S : Nat → Prop} {a w : World} (h : Chg S a w) : Chg S a w.drew := ⟨h.os, h.tape, h.output, h.size, h.block⟩
theorem Chg.drewN {S : Nat → Prop} {a w : World} (h : Chg S a w) (n : Nat) : Chg S a (w.drewN n) := ⟨h.os, h.tape, h.output, h.size, h.block⟩
theorem Chg.grown {S : Nat → Prop} {a w w' : World} {row : Option Nat} (h : Chg S a w) (hg : w.grownBy w' row) (hr : ∀ k, row = some k → S k ∨ a.heap.size ≤ k) : Chg S a w' :=
  ⟨hg.os.trans h.os, hg.tape.trans h.tape, hg.output.trans h.output, Nat.le_trans h.size hg.size, fun i hi hn => (hg.block i (Nat.lt_of_lt_of_le hi h.size) (fun e => by rcases hr i e.symm with h1 | h1; exact hn h1; omega)).trans (h.block i hi hn)⟩
theorem Chg.refl (S : Nat → Prop) (w : World) : Chg S w w := ⟨rfl, rfl, rfl, Nat.le_refl _, fun _ _ _ => rfl⟩
theorem Chg.then_below {S : Nat → Prop} {a b c : World} (h : Chg S a b) (k : Below b.heap.size b c) : Chg S a c := h.trans (Chg.of_below k)

theorem Chg.next {S S' : Nat → Prop} {a b c : World} (h : Chg S a b) (k : Chg S' b c) (hs : ∀ i, S' i → S i ∨ a.heap.size ≤ i) : Chg S a c :=
  ⟨k.os.trans h.os, k.tape.trans h.tape, k.output.trans h.output, Nat.le_trans h.size k.size, fun i hi hn => (k.block i (Nat.lt_of_lt_of_le hi h.size) (fun h1 => by rcases hs i h1 with h2 | h2; exact hn h2; omega)).trans (h.block i hi hn)⟩

/-- A table of locks at block g: who is held (row v1), who waits (row v2); all from block lo on. -/
structure Tab (w : World) (lo g : Nat) (v1 v2 : Value) (H W : List HOp) : Prop where
  blk : Blk w g 54 [v1, v2]
  held : w.ownsRow lo 60 3 v1 H.length (cellsH H)
  waits : w.ownsRow lo 60 3 v2 W.length (cellsH W)
  ne : ∀ k, v1.ownBlock = some k → v2.ownBlock ≠ some k
  lo : lo ≤ g
theorem Tab.below {w w' : World} {lo g : Nat} {v1 v2 : Value} {H W : List HOp} (h : Tab w lo g v1 v2 H W) (hb : Below w.heap.size w w') : Tab w' lo g v1 v2 H W :=
  ⟨h.blk.below hb h.blk.lt, own_below h.held hb (Nat.le_refl _), own_below h.waits hb (Nat.le_refl _), h.ne, h.lo⟩

/-- The same, where what the row of those that wait holds does not matter. -/
structure TabR (w : World) (lo g : Nat) (v1 v2 : Value) (H : List HOp) (nw : Nat) (ys : List Value) : Prop where
  blk : Blk w g 54 [v1, v2]
  held : w.ownsRow lo 60 3 v1 H.length (cellsH H)
  waits : w.ownsRow lo 60 3 v2 nw ys
  ne : ∀ k, v1.ownBlock = some k → v2.ownBlock ≠ some k
  lo : lo ≤ g
theorem TabR.below {w w' : World} {lo g nw : Nat} {v1 v2 : Value} {H : List HOp} {ys : List Value} (h : TabR w lo g v1 v2 H nw ys) (hb : Below w.heap.size w w') : TabR w' lo g v1 v2 H nw ys :=
  ⟨h.blk.below hb h.blk.lt, own_below h.held hb (Nat.le_refl _), own_below h.waits hb (Nat.le_refl _), h.ne, h.lo⟩
theorem Tab.raw {w : World} {lo g : Nat} {v1 v2 : Value} {H W : List HOp} (h : Tab w lo g v1 v2 H W) : TabR w lo g v1 v2 H W.length (cellsH W) := ⟨h.blk, h.held, h.waits, h.ne, h.lo⟩
theorem TabR.tab {w : World} {lo g : Nat} {v1 v2 : Value} {H W : List HOp} (h : TabR w lo g v1 v2 H W.length (cellsH W)) : Tab w lo g v1 v2 H W := ⟨h.blk, h.held, h.waits, h.ne, h.lo⟩

theorem step_app2 {P : Program} {w : World} {ops : Array Oper} {o : Oper} {a : Act} {K : Act → World → Prop} {Q : Exit → Act → World → Prop} {E : Prop} (hgd : o.guard = none) (s x : Operand) (t : TypeId)
    (ho : o.op = .call { callee := .builtin .append, args := #[s, x], argTypes := #[t, t] })
    {e : TypeId} {size bytes : Nat} (base : Nat) (T : SlT P t e size bytes) {v : Value} {n : Nat} {xs : List Value} (hs : a.eval s = v) (hown : w.ownsRow base e size v n xs)
    {B : Nat} {A : Option Addr} {m c : Nat} {news : List Value} (hx : a.eval x = .slice A m c) (hr : Rd w B size A m news) (h1 : ∀ u ∈ news, u.oneCell' = true) (hbytes : (n + m) * bytes ≤ 140737488355328) (hbase : base ≤ w.heap.size)
    (h : ∀ v' w', w'.ownsRow base e size v' (n + m) (xs ++ news) → w.grownBy w' v.ownBlock → (v'.ownBlock = v.ownBlock ∨ v'.ownBlock = some w.heap.size) → K (a.put o.dst v') w') :
    if Region.wanted o (yielded ops a.tmps) = true then Oper.wp P o a w K Q else E := by
  rw [if_pos (by simp [Region.wanted, hgd])]
  exact wp_app s x t ho base T hs hown hx hr h1 hbytes hbase fun v' w' h2 h3 _ h5 _ => h v' w' h2 h3 h5
/-- A row stays while a block of another type is written. -/
theorem own_set_blk {w : World} {base : Nat} {e t : TypeId} {size : Nat} {v : Value} {n g : Nat} {xs cs : List Value} (h : w.ownsRow base e size v n xs) (hB : Blk w g t cs) (hne : t ≠ e) (i : Nat) (u : Value) : (w.setCell ⟨g, i, none⟩ u).ownsRow base e size v n xs := by
  refine h.kept (row := some g) ⟨rfl, rfl, rfl, by simp [World.setCell], fun k _ hk => Below.heap_setCell w _ u k (fun e => hk (by rw [e]))⟩ ?_
  rcases h.2 with ⟨rfl, _⟩ | ⟨g', cap, cur, rfl, _, hh, _⟩
  · exact .inl rfl
  · right
    intro he
    simp [Value.ownBlock] at he
    subst he
    unfold Blk at hB
    rw [hB] at hh
    injection hh with hh
    injection hh with _ ht
    exact hne ht
theorem lnew_any (w : World) : Calls Tryd.prog 9 #[] w fun e w' => e = .returned (.pointer (some ⟨w.heap.size, 0, none⟩)) ∧ Tab w' w.heap.size w.heap.size (.slice none 0 0) (.slice none 0 0) [] [] ∧ Below w.heap.size w w' := by
  go_enter Tryd.func9, Tryd.ntmps9
  go_wp2
  go_ret
  exact ⟨rfl, ⟨Blk.new w 54 [.slice none 0 0, .slice none 0 0], World.ownsRow_nil _ _ _ _, World.ownsRow_nil _ _ _ _, by simp [Value.ownBlock], Nat.le_refl _⟩, (Below.refl _ _).alloc (Nat.le_refl _) _⟩

set_option maxHeartbeats 400000 in
theorem waiting_any (lo g : Nat) (v1 v2 : Value) (H W : List HOp) (tx : Int) (w : World) (T : Tab w lo g v1 v2 H W) (hm : W.length ≤ 1000000) :
    Calls Tryd.prog 24 #[.pointer (some ⟨g, 0, none⟩), .int .i64 tx] w fun e w' => e = .returned (.int .i64 (idxGo (fun y => decide (y.tx = tx)) 0 W)) ∧ Below w.heap.size w w' := by
  obtain ⟨A2, c2, rfl⟩ := own_slice T.waits
  have hr := rd_own T.waits
  have C := hide (fun w1 F caps p (hb : Below w.heap.size w w1) => indexFunc_lock A2 W.length c2 W F caps p w1 ((hr.below hb).more hb.size) (by omega))
  have k1 := T.blk.cellS (i := 1) (v := .slice A2 W.length c2) rfl
  have hgl := T.blk.lt
  generalize hn : W.length = n at *
  have HN := Lib.hid hn
  clear hn
  go_enter Tryd.func24, Tryd.ntmps24
  go_wp2_with fail
  have hb0 : Below w.heap.size w (w.alloc (.cells #[.int .i64 tx] 3)) := (Below.refl _ _).alloc (Nat.le_refl _) _
  have hB := Blk.new w 3 [.int .i64 tx]
  refine Calls.mono (unhide C _ 41 #[.pointer (some ⟨w.heap.size, 0, none⟩)] (fun y => decide (y.tx = tx)) hb0 call_waiting1 (fun y _ w' hw' => waiting1_any y w.heap.size tx w' (hB.below hw' (by simp)))) ?_
  rintro e w1 ⟨rfl, hb1⟩
  have hbw := hb0.trans (hb1.mono hb0.size)
  go_wp2
  go_ret
  exact ⟨rfl, hbw⟩

end Go.Proofs.YtjbgjgmdgjnbfaaDoor
