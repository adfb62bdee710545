
/-
  WHAT TURNED: of what was there only the blocks of a set.
  A TABLE OF LOCKS in memory: what its block and its two rows hold. CONTRACTS of locks.New, waiting, Held, Waits, hold.
  CONTRACT of locks.hold.
  ROWS OF OPS that are cut at their head and grow at their end.
-/
import Derived.Test.YtbccnafdfeempaaGreatDoorQ0
import Derived.Test.YtbccnafdfeempaaGreatDoorQ1
import Derived.Deep.RegionHeld3
import Derived.Deep.RegionLaw
import Derived.RegionTactic
import Derived.BigRegion
import Derived.Outline
import Derived.ArgAppend

namespace Go.Proofs.YtbccnafdfeempaaGreatDoor
open Go.RowKit

/-- Of what was there only the blocks of S have turned. -/
structure Chg (S : Nat → Prop) (w w' : World) : Prop where
  os : w'.os = w.os
  tape : w'.tape = w.tape
  output : w'.output = w.output
  size : w.heap.size ≤ w'.heap.size
  block : ∀ k, k < w.heap.size → ¬ S k → w'.heap[k]? = w.heap[k]?
theorem Chg.below {S : Nat → Prop} {w w' : World} {lo : Nat} (h : Chg S w w') (hS : ∀ k, S k → lo ≤ k) (hlo : lo ≤ w.heap.size) : Below lo w w' :=
  ⟨h.os, h.tape, h.output, h.size, fun k hk => h.block k (by omega) (fun hs => by have := hS k hs; omega)⟩
theorem Chg.of_below {S : Nat → Prop} {w w' : World} (h : Below w.heap.size w w') : Chg S w w' := ⟨h.os, h.tape, h.output, h.size, fun k hk _ => h.block k hk⟩
theorem Chg.mono {S S' : Nat → Prop} {w w' : World} (h : Chg S w w') (hS : ∀ k, S k → S' k ∨ w.heap.size ≤ k) : Chg S' w w' :=
  ⟨h.os, h.tape, h.output, h.size, fun k hk hn => h.block k hk (fun hs => by rcases hS k hs with h1 | h1; exact hn h1; omega)⟩
theorem Chg.trans {S : Nat → Prop} {a b c : World} (h : Chg S a b) (k : Chg S b c) : Chg S a c :=
  ⟨k.os.trans h.os, k.tape.trans h.tape, k.output.trans h.output, Nat.le_trans h.size k.size, fun i hi hn => (k.block i (Nat.lt_of_lt_of_le hi h.size) hn).trans (h.block i hi hn)⟩
theorem Chg.set {S : Nat → Prop} {a w : World} (h : Chg S a w) {p : Addr} (hp : S p.block ∨ a.heap.size ≤ p.block) (u : Value) : Chg S a (w.setCell p u) :=
  ⟨h.os, h.tape, h.output, by simpa [World.setCell] using h.size, fun i hi hn => (Below.heap_setCell w p u i (fun e => by rw [e] at hi hn; rcases hp with h1 | h1; exact hn h1; omega)).trans (h.block i hi hn)⟩
theorem Chg.alloc {S : Nat → Prop} {a w : World} (h : Chg S a w) (o : Obj) : Chg S a (w.alloc o) :=
  ⟨h.os, h.tape, h.output, by have := h.size; simp; omega, fun i hi hn => (Below.heap_alloc w o i (Nat.lt_of_lt_of_le hi h.size)).trans (h.block i hi hn)⟩
theorem Chg.drew {S : Nat → Prop} {a w : World} (h : Chg S a w) : Chg S a w.drew := ⟨h.os, h.tape, h.output, h.size, h.block⟩
theorem Chg.drewN {S : Nat → Prop} {a w : World} (h : Chg S a w) (n : Nat) : Chg S a (w.drewN n) := ⟨h.os, h.tape, h.output, h.size, h.block⟩
theorem Chg.grown {S : Nat → Prop} {a w w' : World} {row : Option Nat} (h : Chg S a w) (hg : w.grownBy w' row) (hr : ∀ k, row = some k → S k ∨ a.heap.size ≤ k) : Chg S a w' :=
  ⟨hg.os.trans h.os, hg.tape.trans h.tape, hg.output.trans h.output, Nat.le_trans h.size hg.size, fun i hi hn => (hg.block i (Nat.lt_of_lt_of_le hi h.size) (fun e => by rcases hr i e.symm with h1 | h1; exact hn h1; omega)).trans (h.block i hi hn)⟩
theorem Chg.refl (S : Nat → Prop) (w : World) : Chg S w w := ⟨rfl, rfl, rfl, Nat.le_refl _, fun _ _ _ => rfl⟩
theorem Chg.then_below {S : Nat → Prop} {a b c : World} (h : Chg S a b) (k : Below b.heap.size b c) : Chg S a c := h.trans (Chg.of_below k)

theorem Chg.next {S S' : Nat → Prop} {a b c : World} (h : Chg S a b) (k : Chg S' b c) (hs : ∀ i, S' i → S i ∨ a.heap.size ≤ i) : Chg S a c :=
  ⟨k.os.trans h.os, k.tape.trans h.tape, k.output.trans h.output, Nat.le_trans h.size k.size, fun i hi hn => (k.block i (Nat.lt_of_lt_of_le hi h.size) (fun h1 => by rcases hs i h1 with h2 | h2; exact hn h2; omega)).trans (h.block i hi hn)⟩
theorem own_chg {S : Nat → Prop} {w w' : World} {base : Nat} {e : TypeId} {size : Nat} {v : Value} {n : Nat} {xs : List Value} (h : w.ownsRow base e size v n xs) (hb : Chg S w w') (hs : ∀ k, v.ownBlock = some k → ¬ S k) : w'.ownsRow base e size v n xs := by
  refine ⟨h.1, ?_⟩
  rcases h.2 with hn | ⟨g, cap, cur, rfl, hbb, hgg, rest⟩
  · exact .inl hn
  · refine .inr ⟨g, cap, cur, rfl, hbb, ?_, rest⟩
    rw [hb.block g (Array.getElem?_eq_some_iff.1 hgg).1 (hs g rfl)]
    exact hgg
theorem own_same {w w' : World} {base : Nat} {e : TypeId} {size : Nat} {v : Value} {n : Nat} {xs : List Value} (h : w.ownsRow base e size v n xs) (hs : ∀ k, v.ownBlock = some k → w'.heap[k]? = w.heap[k]?) : w'.ownsRow base e size v n xs := by
  refine ⟨h.1, ?_⟩
  rcases h.2 with hn | ⟨g, cap, cur, rfl, hbb, hgg, rest⟩
  · exact .inl hn
  · exact .inr ⟨g, cap, cur, rfl, hbb, (hs g rfl).trans hgg, rest⟩
theorem Blk.chg {S : Nat → Prop} {w w' : World} {g : Nat} {t : TypeId} {cs : List Value} (h : Blk w g t cs) (hb : Chg S w w') (hs : ¬ S g) : Blk w' g t cs := (hb.block g h.lt hs).trans h
theorem step_app2 {P : Program} {w : World} {ops : Array Oper} {o : Oper} {a : Act} {K : Act → World → Prop} {Q : Exit → Act → World → Prop} {E : Prop} (hgd : o.guard = none) (s x : Operand) (t : TypeId)
    (ho : o.op = .call { callee := .builtin .append, args := #[s, x], argTypes := #[t, t] })
    {e : TypeId} {size bytes : Nat} (base : Nat) (T : SlT P t e size bytes) {v : Value} {n : Nat} {xs : List Value} (hs : a.eval s = v) (hown : w.ownsRow base e size v n xs)
    {B : Nat} {A : Option Addr} {m c : Nat} {news : List Value} (hx : a.eval x = .slice A m c) (hr : Rd w B size A m news) (h1 : ∀ u ∈ news, u.oneCell' = true) (hbytes : (n + m) * bytes ≤ 140737488355328) (hbase : base ≤ w.heap.size)
    (h : ∀ v' w', w'.ownsRow base e size v' (n + m) (xs ++ news) → w.grownBy w' v.ownBlock → (v'.ownBlock = v.ownBlock ∨ v'.ownBlock = some w.heap.size) → K (a.put o.dst v') w') :
    if Region.wanted o (yielded ops a.tmps) = true then Oper.wp P o a w K Q else E := by
  rw [if_pos (by simp [Region.wanted, hgd])]
  exact wp_app s x t ho base T hs hown hx hr h1 hbytes hbase fun v' w' h2 h3 _ h5 _ => h v' w' h2 h3 h5
/-- A row stays while a block of another type is written. -/
theorem own_set_blk {w : World} {base : Nat} {e t : TypeId} {size : Nat} {v : Value} {n g : Nat} {xs cs : List Value} (h : w.ownsRow base e size v n xs) (hB : Blk w g t cs) (hne : t ≠ e) (i : Nat) (u : Value) : (w.setCell ⟨g, i, none⟩ u).ownsRow base e size v n xs := by
  refine h.kept (row := some g) ⟨rfl, rfl, rfl, by simp [World.setCell], fun k _ hk => Below.heap_setCell w _ u k (fun e => hk (by rw [e]))⟩ ?_
  rcases h.2 with ⟨rfl, _⟩ | ⟨g', cap, cur, rfl, _, hh, _⟩
  · exact .inl rfl
  · right
    intro he
    simp [Value.ownBlock] at he
    subst he
    unfold Blk at hB
    rw [hB] at hh
    injection hh with hh
    injection hh with _ ht
    exact hne ht
end Go.Proofs.YtbccnafdfeempaaGreatDoor


namespace Go.Proofs.YtbccnafdfeempaaGreatDoor
open Go.RowKit

/-- A table of locks at block g: who is held (row v1), who waits (row v2); all from block lo on. -/
structure Tab (w : World) (lo g : Nat) (v1 v2 : Value) (H W : List HOp) : Prop where
  blk : Blk w g 72 [v1, v2]
  held : w.ownsRow lo 67 3 v1 H.length (cellsH H)
  waits : w.ownsRow lo 67 3 v2 W.length (cellsH W)
  ne : ∀ k, v1.ownBlock = some k → v2.ownBlock ≠ some k
  lo : lo ≤ g
theorem Tab.below {w w' : World} {lo g : Nat} {v1 v2 : Value} {H W : List HOp} (h : Tab w lo g v1 v2 H W) (hb : Below w.heap.size w w') : Tab w' lo g v1 v2 H W :=
  ⟨h.blk.below hb h.blk.lt, own_below h.held hb (Nat.le_refl _), own_below h.waits hb (Nat.le_refl _), h.ne, h.lo⟩

/-- The same, where what the row of those that wait holds does not matter. -/
structure TabR (w : World) (lo g : Nat) (v1 v2 : Value) (H : List HOp) (nw : Nat) (ys : List Value) : Prop where
  blk : Blk w g 72 [v1, v2]
  held : w.ownsRow lo 67 3 v1 H.length (cellsH H)
  waits : w.ownsRow lo 67 3 v2 nw ys
  ne : ∀ k, v1.ownBlock = some k → v2.ownBlock ≠ some k
  lo : lo ≤ g
theorem TabR.below {w w' : World} {lo g nw : Nat} {v1 v2 : Value} {H : List HOp} {ys : List Value} (h : TabR w lo g v1 v2 H nw ys) (hb : Below w.heap.size w w') : TabR w' lo g v1 v2 H nw ys :=
  ⟨h.blk.below hb h.blk.lt, own_below h.held hb (Nat.le_refl _), own_below h.waits hb (Nat.le_refl _), h.ne, h.lo⟩
theorem Tab.raw {w : World} {lo g : Nat} {v1 v2 : Value} {H W : List HOp} (h : Tab w lo g v1 v2 H W) : TabR w lo g v1 v2 H W.length (cellsH W) := ⟨h.blk, h.held, h.waits, h.ne, h.lo⟩
theorem TabR.tab {w : World} {lo g : Nat} {v1 v2 : Value} {H W : List HOp} (h : TabR w lo g v1 v2 H W.length (cellsH W)) : Tab w lo g v1 v2 H W := ⟨h.blk, h.held, h.waits, h.ne, h.lo⟩

theorem lnew_any (w : World) : Calls Tryz.prog 13 #[] w fun e w' => e = .returned (.pointer (some ⟨w.heap.size, 0, none⟩)) ∧ Tab w' w.heap.size w.heap.size (.slice none 0 0) (.slice none 0 0) [] [] ∧ Below w.heap.size w w' := by
  go_enter Tryz.func13, Tryz.ntmps13
  go_wp2
  go_ret
  exact ⟨rfl, ⟨Blk.new w 72 [.slice none 0 0, .slice none 0 0], World.ownsRow_nil _ _ _ _, World.ownsRow_nil _ _ _ _, by simp [Value.ownBlock], Nat.le_refl _⟩, (Below.refl _ _).alloc (Nat.le_refl _) _⟩

set_option maxHeartbeats 400000 in
theorem waiting_any (lo g : Nat) (v1 v2 : Value) (H W : List HOp) (tx : Int) (w : World) (T : Tab w lo g v1 v2 H W) (hm : W.length ≤ 1000000) :
    Calls Tryz.prog 39 #[.pointer (some ⟨g, 0, none⟩), .int .i64 tx] w fun e w' => e = .returned (.int .i64 (idxGo (fun y => decide (y.tx = tx)) 0 W)) ∧ Below w.heap.size w w' := by
  obtain ⟨A2, c2, rfl⟩ := own_slice T.waits
  have hr := rd_own T.waits
  have C := hide (fun w1 F caps p (hb : Below w.heap.size w w1) => indexFunc_lock A2 W.length c2 W F caps p w1 ((hr.below hb).more hb.size) (by omega))
  have k1 := T.blk.cellS (i := 1) (v := .slice A2 W.length c2) rfl
  have hgl := T.blk.lt
  generalize hn : W.length = n at *
  have HN := Lib.hid hn
  clear hn
  go_enter Tryz.func39, Tryz.ntmps39
  go_wp2_with fail
  have hb0 : Below w.heap.size w (w.alloc (.cells #[.int .i64 tx] 3)) := (Below.refl _ _).alloc (Nat.le_refl _) _
  have hB := Blk.new w 3 [.int .i64 tx]
  refine Calls.mono (unhide C _ 59 #[.pointer (some ⟨w.heap.size, 0, none⟩)] (fun y => decide (y.tx = tx)) hb0 call_waiting1 (fun y _ w' hw' => waiting1_any y w.heap.size tx w' (hB.below hw' (by simp)))) ?_
  rintro e w1 ⟨rfl, hb1⟩
  have hbw := hb0.trans (hb1.mono hb0.size)
  go_wp2
  go_ret
  exact ⟨rfl, hbw⟩

end Go.Proofs.YtbccnafdfeempaaGreatDoor


namespace Go.Proofs.YtbccnafdfeempaaGreatDoor
open Go.RowKit

/-- A lock is held: in the place of the deal's own on that item, or behind all. -/
def holdL (H : List HOp) (l : HOp) : List HOp := match H.findIdx? (ofP l.tx l.what) with
  | some i => H.set i l
  | none => H ++ [l]
theorem idx_find {α : Type} (p : α → Bool) (h : List α) : (h.findIdx? p = none ∧ idxGo p 0 h = -1) ∨ ∃ i : Nat, h.findIdx? p = some i ∧ i < h.length ∧ idxGo p 0 h = i := by
  rcases idxGo_spec p 0 h with ⟨h1, h2⟩ | ⟨i, o, h1, h2, h3, h4⟩
  · exact .inl ⟨List.findIdx?_eq_none_iff.2 (fun x hx => by simp [h1 x hx]), h2⟩
  · have hi := (List.getElem?_eq_some_iff.1 h1).1
    refine .inr ⟨i, ?_, hi, by rw [h4]; omega⟩
    rw [List.findIdx?_eq_some_iff_getElem]
    refine ⟨hi, by rw [(List.getElem?_eq_some_iff.1 h1).2]; exact h2, fun j hj => ?_⟩
    have : h[j]'(by omega) ∈ h.take i := by
      rw [List.mem_iff_getElem?]
      exact ⟨j, by rw [List.getElem?_take, if_pos hj, List.getElem?_eq_getElem]⟩
    simp [h3 _ this]

theorem ocells' {w : World} {g : Nat} {t : TypeId} {a b c : Int} (h : Blk w g t [.int .i64 a, .int .i64 b, .int .i64 c]) :
    w.cell? ⟨g, 0, none⟩ = some (.int .i64 a) ∧ w.cell? ⟨g, 1, none⟩ = some (.int .i64 b) ∧ w.cell? ⟨g, 2, none⟩ = some (.int .i64 c) := ⟨h.cellS rfl, h.cellS rfl, h.cellS rfl⟩
/-- What hold leaves. -/
def HoldPostR (w : World) (lo g : Nat) (v1 v2 : Value) (H : List HOp) (nw : Nat) (ys : List Value) (l : HOp) (e : Ending) (w' : World) : Prop :=
  ∃ v v1', e = .returned v ∧ TabR w' lo g v1' v2 (holdL H l) nw ys ∧ Chg (fun k => k = g ∨ v1.ownBlock = some k) w w' ∧ (v1'.ownBlock = v1.ownBlock ∨ ∃ k, v1'.ownBlock = some k ∧ w.heap.size ≤ k)

set_option maxRecDepth 100000 in
set_option maxHeartbeats 2000000 in
theorem holdR_any (lo g : Nat) (v1 v2 : Value) (H : List HOp) (nw : Nat) (ys : List Value) (l : HOp) (w : World) (T : TabR w lo g v1 v2 H nw ys) (hm : H.length ≤ 1000000) (hlo : lo ≤ w.heap.size) :
    Calls Tryz.prog 42 #[.pointer (some ⟨g, 0, none⟩), l.val] w (HoldPostR w lo g v1 v2 H nw ys l) := by
  obtain ⟨A1, c1, rfl⟩ := own_slice T.held
  obtain ⟨l1, l2, l3⟩ := l
  have hr := rd_own T.held
  have C := hide (fun w1 (hb : Below w.heap.size w w1) => lof_any A1 H.length c1 H l1 l2 w1 ((hr.below hb).more hb.size) (by omega))
  have hgl := T.blk.lt
  have hB0 := Blk.new w 67 [.int .i64 l1, .int .i64 l2, .int .i64 l3]
  have hT0 := T.below ((Below.refl _ _).alloc (Nat.le_refl _) (.cells #[.int .i64 l1, .int .i64 l2, .int .i64 l3] 67))
  have k0 := hT0.blk.cellS (i := 0) (v := .slice A1 H.length c1) rfl
  obtain ⟨m0, m1, m2⟩ : _ ∧ _ ∧ _ := ⟨hB0.cellS (i := 0) (v := .int .i64 l1) rfl, hB0.cellS (i := 1) (v := .int .i64 l2) rfl, hB0.cellS (i := 2) (v := .int .i64 l3) rfl⟩
  have hb0 : Below w.heap.size w (w.alloc (.cells #[.int .i64 l1, .int .i64 l2, .int .i64 l3] 67)) := (Below.refl _ _).alloc (Nat.le_refl _) _
  have hfind := idx_find (ofP l1 l2) H
  unfold HOp.val
  go_enter Tryz.func42, Tryz.ntmps42
  go_wp2_with fail
  generalize w.alloc (.cells #[.int .i64 l1, .int .i64 l2, .int .i64 l3] 67) = w1 at *
  go_region_held3 (fun w' => w'.cell? ⟨g, 0, none⟩ = some (.slice A1 H.length c1) ∧ w'.cell? ⟨w.heap.size, 0, none⟩ = some (.int .i64 l1) ∧ w'.cell? ⟨w.heap.size, 1, none⟩ = some (.int .i64 l2)) (first | exact ⟨k0, m0, m1⟩ | exact hcell6 | go_keep)
    (first
      | (go_at_call 40; refine (unhide C _ (by first | exact hb0 | exact hb0.drew)).mono ?_; rintro e w2 ⟨rfl, hb2⟩; have hcell6 : w2.cell? ⟨g, 0, none⟩ = some (.slice A1 H.length c1) ∧ w2.cell? ⟨w.heap.size, 0, none⟩ = some (.int .i64 l1) ∧ w2.cell? ⟨w.heap.size, 1, none⟩ = some (.int .i64 l2) := ⟨(hb2.cell (p := ⟨g, 0, none⟩) hT0.blk.lt).trans k0, (hb2.cell (p := ⟨w.heap.size, 0, none⟩) hB0.lt).trans m0, (hb2.cell (p := ⟨w.heap.size, 1, none⟩) hB0.lt).trans m1⟩))
  have hbd : Below w1.heap.size w1 w2 := ((Below.refl w1.heap.size w1).drew).trans hb2
  have hT2 := hT0.below hbd
  have hB2 := hB0.below hbd hB0.lt
  have hc2 : Chg (fun k => k = g ∨ (Value.slice A1 H.length c1).ownBlock = some k) w w2 := (Chg.of_below hb0).trans ((Chg.of_below hbd).mono fun k hk => .inl hk)
  have hs2 : lo ≤ w2.heap.size := Nat.le_trans hlo (Nat.le_trans hb0.size hbd.size)
  have hsz2 : w.heap.size ≤ w2.heap.size := Nat.le_trans hb0.size hbd.size
  have k0' := hT2.blk.cellS (i := 0) (v := .slice A1 H.length c1) rfl
  have kf := hT2.blk.frozen 0
  have m0' := hB2.cellS (i := 0) (v := .int .i64 l1) rfl
  have m1' := hB2.cellS (i := 1) (v := .int .i64 l2) rfl
  have m2' := hB2.cellS (i := 2) (v := .int .i64 l3) rfl
  clear hcell6 hb2 hbd hT0 hB0 k0 m0 m1 m2 hb0 C hr T
  rcases hfind with ⟨f1, f2⟩ | ⟨i, f1, hi, f2⟩
  · have HL : Hid (holdL H ⟨l1, l2, l3⟩ = H ++ [⟨l1, l2, l3⟩]) := Lib.hid (by unfold holdL; rw [f1])
    rw [f2]
    clear f1 f2
    have h1c : ∀ u ∈ cellsH [⟨l1, l2, l3⟩], u.oneCell' = true := oneH _
    have HM := Lib.hid hm
    go_wp2_with fail
    have hg2 := hT2.blk.lt
    have hb2 := hB2.lt
    have k0a := (World.cell?_alloc_lt w2 (.cells #[.int .i64 l1, .int .i64 l2, .int .i64 l3] 67) ⟨g, 0, none⟩ hg2).trans k0'
    go_region_law (first | ((refine step_app2 rfl (.tmp 27) (.tmp 29) _ rfl lo slt_lock (n := H.length) (xs := cellsH H) (m := 1) (news := cellsH [⟨l1, l2, l3⟩]) rfl (own_alloc hT2.held.drew _) rfl (rd_new' _ _ (cellsH [⟨l1, l2, l3⟩]) (by simp) rfl) h1c (by omega) (by simp; omega) ?_; intro v6 w6 hown6 hg6 hat6; obtain ⟨A6, c6, rfl⟩ := own_slice hown6; have hBk6 := (hT2.blk.drew.alloc (.cells (cellsH [⟨l1, l2, l3⟩]).toArray 67)).other (own_alloc hT2.held.drew _) (by decide) hg6; have p0 := hBk6.cellS (i := 0) (v := .slice A1 H.length c1) rfl; have p1 := hBk6.frozen 0)))
    all_goals
      go_wp2
      go_end0
      have hw6 := (own_alloc hT2.waits.drew (.cells (cellsH [⟨l1, l2, l3⟩]).toArray 67)).kept hg6 (by
        cases hv : v2.ownBlock with
        | none => exact .inl rfl
        | some k2 => exact .inr (fun e => hT2.ne k2 e.symm hv))
      have hsz : (w2.drew.alloc (.cells (cellsH [⟨l1, l2, l3⟩]).toArray 67)).heap.size = w2.heap.size + 1 := by simp
      refine ⟨_, _, rfl, ⟨hBk6.put 0 _, ?_, own_set_blk hw6 hBk6 (by decide) 0 _, ?_, hT2.lo⟩, ?_, ?_⟩
      · rw [HL.out, cellsH_append]
        exact own_set_blk (by simpa using hown6) hBk6 (by decide) 0 _
      · intro k hk
        rcases hat6 with e | e
        · exact hT2.ne k (e.symm.trans hk)
        · intro h2
          have h3 := (hT2.waits.lt k h2).2
          rw [e] at hk
          injection hk with hk
          simp at hk
          omega
      · exact ((hc2.drew.alloc _).grown hg6 (fun k hk => .inl (.inr hk))).set (p := ⟨g, 0, none⟩) (.inl (.inl rfl)) _
      · rcases hat6 with e | e
        · exact .inl e
        · exact .inr ⟨_, e, by simp; omega⟩
  · rw [f2]
    obtain ⟨g1, rfl⟩ : ∃ g1, A1 = some ⟨g1, 0, none⟩ := by
      rcases hT2.held.2 with ⟨_, h0⟩ | ⟨g1, _, _, hv, _⟩
      · omega
      · injection hv with hA; exact ⟨g1, hA⟩
    have HL : Hid (holdL H ⟨l1, l2, l3⟩ = H.set i ⟨l1, l2, l3⟩) := Lib.hid (by unfold holdL; rw [f1])
    clear f1 f2
    have hlen := hT2.held.1
    rw [cellsH_length] at hlen
    have D : ∀ j, j < H.length * 3 → ∃ v, w2.cell? ⟨g1, j, none⟩ = some v := fun j hj => ⟨_, (hT2.held.cellAt j (by omega)).trans (List.getElem?_eq_getElem (by rw [cellsH_length]; omega))⟩
    obtain ⟨x0, d0⟩ := D (i * 3) (by omega)
    obtain ⟨x1, d1⟩ := D (i * 3 + 1) (by omega)
    obtain ⟨x2, d2⟩ := D (i * 3 + 2) (by omega)
    have e0 := hT2.held.frozenAt (i * 3)
    have e1 := hT2.held.frozenAt (i * 3 + 1)
    have e2 := hT2.held.frozenAt (i * 3 + 2)
    have hgg : g ≠ g1 := by
      rintro rfl
      rcases hT2.held.2 with ⟨hv, _⟩ | ⟨g', cap, cur, hv, _, hh, _⟩
      · cases hv
      · injection hv with hA
        injection hA with hA
        injection hA with hA
        subst hA
        have := hT2.blk
        unfold Blk at this
        rw [this] at hh
        injection hh with hh
        injection hh with _ ht
        exact absurd ht (by decide)
    have hne2 : ∀ k, v2.ownBlock = some k → k ≠ g1 := fun k hk e => hT2.ne g1 rfl (by rw [← e]; exact hk)
    have hw2 : (((w2.setCell ⟨g1, i * 3, none⟩ (.int .i64 l1)).setCell ⟨g1, i * 3 + 1, none⟩ (.int .i64 l2)).setCell ⟨g1, i * 3 + 2, none⟩ (.int .i64 l3)).ownsRow lo 67 3 v2 nw ys := by
      have st : ∀ (wx : World) (q : Nat) (u : Value), wx.ownsRow lo 67 3 v2 nw ys → (wx.setCell ⟨g1, q, none⟩ u).ownsRow lo 67 3 v2 nw ys := fun wx q u h =>
        h.kept (row := some g1) ⟨rfl, rfl, rfl, by simp [World.setCell], fun k _ hk => Below.heap_setCell wx _ u k (fun e => hk (by rw [e]))⟩ (by
          cases hv : v2.ownBlock with
          | none => exact .inl rfl
          | some k2 => exact .inr (fun e => hne2 k2 hv (by injection e)))
      exact st _ _ _ (st _ _ _ (st _ _ _ hT2.waits))
    have hh2 := own_set3 hT2.held i ⟨l1, l2, l3⟩
    simp only at hh2
    go_wp2_with fail
    go_region
    all_goals
      go_wp2
      go_end0
      refine ⟨_, .slice (some ⟨g1, 0, none⟩) H.length c1, rfl, ⟨(((hT2.blk.far (p := ⟨g1, i * 3, none⟩) hgg _).far (p := ⟨g1, i * 3 + 1, none⟩) hgg _).far (p := ⟨g1, i * 3 + 2, none⟩) hgg _).drew, ?_, hw2.drew, hT2.ne, hT2.lo⟩,
        (((hc2.set (p := ⟨g1, i * 3, none⟩) (.inl (.inr rfl)) _).set (p := ⟨g1, i * 3 + 1, none⟩) (.inl (.inr rfl)) _).set (p := ⟨g1, i * 3 + 2, none⟩) (.inl (.inr rfl)) _).drew, .inl rfl⟩
      rw [HL.out, List.length_set]
      exact hh2.drew
/-- What hold leaves of a table. -/
def HoldPost (w : World) (lo g : Nat) (v1 v2 : Value) (H W : List HOp) (l : HOp) (e : Ending) (w' : World) : Prop :=
  ∃ v v1', e = .returned v ∧ Tab w' lo g v1' v2 (holdL H l) W ∧ Chg (fun k => k = g ∨ v1.ownBlock = some k) w w' ∧ (v1'.ownBlock = v1.ownBlock ∨ ∃ k, v1'.ownBlock = some k ∧ w.heap.size ≤ k)
theorem hold_any (lo g : Nat) (v1 v2 : Value) (H W : List HOp) (l : HOp) (w : World) (T : Tab w lo g v1 v2 H W) (hm : H.length ≤ 1000000) (hlo : lo ≤ w.heap.size) :
    Calls Tryz.prog 42 #[.pointer (some ⟨g, 0, none⟩), l.val] w (HoldPost w lo g v1 v2 H W l) := by
  refine (holdR_any lo g v1 v2 H W.length (cellsH W) l w T.raw hm hlo).mono ?_
  rintro e w' ⟨v, v1', h1, h2, h3⟩
  exact ⟨v, v1', h1, h2.tab, h3⟩
end Go.Proofs.YtbccnafdfeempaaGreatDoor


namespace Go.Proofs.YtbccnafdfeempaaGreatDoor
open Go.RowKit

/-! ### Rows of ops that are cut at their head. -/
def QRow (w : World) (lo : Nat) (e : TypeId) (v : Value) (l : List HOp) : Prop :=
  (v = .slice none 0 0 ∧ l = []) ∨ ∃ g o c cur, v = .slice (some ⟨g, o, none⟩) l.length c ∧ lo ≤ g ∧ w.heap[g]? = some (.cells cur e (0, 0)) ∧ l.length ≤ c ∧ c ≤ maxLen ∧ o + c * 3 ≤ cur.size ∧ ∀ (j : Nat) (u : Value), (cellsH l)[j]? = some u → cur[o + j]? = some u
section
variable {w w' : World} {lo : Nat} {e : TypeId} {v : Value} {l : List HOp}
theorem QRow.nil (w : World) (lo : Nat) (e : TypeId) : QRow w lo e (.slice none 0 0) [] := .inl ⟨rfl, rfl⟩
theorem QRow.kept (h : QRow w lo e v l) (hk : ∀ g, v.ownBlock = some g → w'.heap[g]? = w.heap[g]?) : QRow w' lo e v l := by
  rcases h with h | ⟨g, o, c, cur, rfl, h2, h3, h4⟩
  · exact .inl h
  · exact .inr ⟨g, o, c, cur, rfl, h2, (hk g rfl).trans h3, h4⟩
theorem QRow.lt (h : QRow w lo e v l) {k : Nat} (hk : v.ownBlock = some k) : lo ≤ k ∧ k < w.heap.size := by
  rcases h with ⟨rfl, _⟩ | ⟨g, o, c, cur, rfl, h2, h3, h4⟩
  · cases hk
  · simp [Value.ownBlock] at hk
    subst hk
    exact ⟨h2, (Array.getElem?_eq_some_iff.1 h3).1⟩
theorem QRow.of_own {n : Nat} (h : w.ownsRow lo e 3 v n (cellsH l)) (hn : n = l.length) : QRow w lo e v l := by
  subst hn
  rcases h.2 with ⟨rfl, h0⟩ | ⟨g, cap, cur, rfl, hb, hh, hc, hm, hsz, hx⟩
  · exact .inl ⟨rfl, List.eq_nil_of_length_eq_zero h0⟩
  · refine .inr ⟨g, 0, cap, cur, rfl, hb, hh, hc, hm, by omega, fun j u hu => ?_⟩
    rw [← hx, List.getElem?_take] at hu
    split at hu
    · rw [Nat.zero_add]; simpa using hu
    · cases hu
theorem QRow.shape' (h : QRow w lo e v l) : ∃ A c, v = .slice A l.length c := by
  rcases h with ⟨rfl, rfl⟩ | ⟨g, o, c, cur, rfl, _⟩
  · exact ⟨none, 0, rfl⟩
  · exact ⟨_, c, rfl⟩
/-- Its first op. -/
theorem QRow.head {o : HOp} {t : List HOp} (h : QRow w lo e v (o :: t)) : ∃ g off c, v = .slice (some ⟨g, off, none⟩) (t.length + 1) c ∧ t.length + 1 ≤ c ∧ g < w.heap.size ∧ w.cell? ⟨g, off, none⟩ = some (.int .i64 o.tx) ∧ w.cell? ⟨g, off + 1, none⟩ = some (.int .i64 o.what) ∧ w.cell? ⟨g, off + 2, none⟩ = some (.int .i64 o.item) ∧
    QRow w lo e (.slice (some (if c = 1 then ⟨g, off, none⟩ else ⟨g, off + 3, none⟩)) t.length (c - 1)) t := by
  rcases h with ⟨_, h⟩ | ⟨g, off, c, cur, rfl, h2, h3, h4, h5, h6, h7⟩
  · cases h
  · rw [List.length_cons] at h4
    have hc : ∀ j u, (cellsH (o :: t))[j]? = some u → w.cell? ⟨g, off + j, none⟩ = some u := fun j u hu => by
      simp [World.cell?, h3, h7 j u hu]
    refine ⟨g, off, c, rfl, h4, (Array.getElem?_eq_some_iff.1 h3).1, hc 0 _ rfl, hc 1 _ rfl, hc 2 _ rfl, ?_⟩
    by_cases h1 : c = 1
    · have ht : t = [] := List.eq_nil_of_length_eq_zero (by omega)
      subst ht
      rw [if_pos h1]
      exact .inr ⟨g, off, c - 1, cur, rfl, h2, h3, by simp, by omega, by omega, fun j u hu => by simp [cellsH] at hu⟩
    · rw [if_neg h1]
      refine .inr ⟨g, off + 3, c - 1, cur, rfl, h2, h3, by omega, by omega, by omega, fun j u hu => ?_⟩
      have := h7 (j + 3) u (by simpa [cellsH] using hu)
      rw [show off + 3 + j = off + (j + 3) by omega]
      exact this
theorem run_qappH {P : Program} {t ty e : TypeId} (T : SlT P t e 3 24) (h : QRow w lo e v l) {B : Nat} {A : Option Addr} {c1 : Nat} {x : HOp} (hr : Rd w B 3 A 1 (cellsH [x])) (hb : (l.length + 1) * 24 ≤ 140737488355328) (hbase : lo ≤ w.heap.size) :
    ∃ v' w', (Builtin.append_ #[t, t] ty #[v, .slice A 1 c1]).run P w = .ok v' w' ∧ QRow w' lo e v' (l ++ [x]) ∧ w.grownBy w' v.ownBlock ∧ (v'.ownBlock = v.ownBlock ∨ ∃ k, v'.ownBlock = some k ∧ w.heap.size ≤ k) := by
  obtain ⟨b, off, rfl, _, hcl⟩ := hr.2 (by omega)
  rcases h with ⟨rfl, rfl⟩ | ⟨g, o, c, cur, rfl, h2, h3, h4, h5, h6, h7⟩
  · obtain ⟨v', w', hrun, h1, h2, h3, _⟩ := run_app (P := P) (ty := ty) (base := lo) (c := c1) T (World.ownsRow_nil w lo e 3) hr (oneH _) (by omega) hbase
    refine ⟨v', w', hrun, QRow.of_own (n := 0 + 1) (by simpa using h1) rfl, h2, ?_⟩
    exact h3.imp id fun h => ⟨_, h, Nat.le_refl _⟩
  · obtain ⟨i, z, ht, hi, hz, hsize, hby, hzs, h0, hb0, _⟩ := T
    have hnews : ∀ (j : Nat) (u : Value), (cellsH [x])[j]? = some u → w.cell? ((⟨b, off, none⟩ : Addr).add j) = some u := by
      intro j u hu
      have := hcl j u hu
      unfold Addr.add
      split
      · next h => subst h; simpa using this
      · exact this
    have hlt := (Array.getElem?_eq_some_iff.1 h3).1
    by_cases hroom : l.length + 1 ≤ c
    · have hin : ∀ j, j < 3 → o + l.length * 3 + j < cur.size := fun j hj => by omega
      have hr2 := run_append_room_cells (P := P) (w := w) t ty e i ht hi g o l.length c ⟨b, off, none⟩ 1 c1 (cellsH [x]) (by simp [hsize, cellsH]) hnews (oneH _) hroom
        (fun j hj => by
          have hj3 : j < 3 := by simpa [cellsH] using hj
          have := hin j hj3
          rw [hsize]
          simp [World.cell?, h3, this])
        (fun j hj => by simp [World.frozen?, h3])
      refine ⟨_, _, hr2, .inr ⟨g, o, c, ((cur.setIfInBounds (o + l.length * 3) (.int .i64 x.tx)).setIfInBounds (o + l.length * 3 + 1) (.int .i64 x.what)).setIfInBounds (o + l.length * 3 + 2) (.int .i64 x.item), by simp, h2, ?_, by simpa using hroom, h5, by simpa using h6, fun j u hj => ?_⟩, ?_, .inl rfl⟩
      · rw [hsize]
        simp [World.setCells, World.setCell, Array.getElem?_modify, h3, cellsH]
      · have e1 : cellsH (l ++ [x]) = cellsH l ++ cellsH [x] := by simp [cellsH]
        have e2 : (cellsH l).length = l.length * 3 := by rw [cellsH_length]
        rw [e1] at hj
        have i0 := hin 0 (by omega)
        have i1 := hin 1 (by omega)
        have i2 := hin 2 (by omega)
        rcases Nat.lt_or_ge j (l.length * 3) with hjl | hjl
        · rw [List.getElem?_append_left (by omega)] at hj
          rw [Array.getElem?_setIfInBounds, if_neg (by omega), Array.getElem?_setIfInBounds, if_neg (by omega), Array.getElem?_setIfInBounds, if_neg (by omega)]
          exact h7 j u hj
        · rw [List.getElem?_append_right (by omega), e2] at hj
          have hj3 : j - l.length * 3 < 3 := by
            have := (List.getElem?_eq_some_iff.1 hj).1
            simpa [cellsH] using this
          obtain ⟨r, hr⟩ : ∃ r, j = l.length * 3 + r := ⟨j - l.length * 3, by omega⟩
          subst hr
          rw [Nat.add_sub_cancel_left] at hj hj3
          match r, hj3, hj with
          | 0, _, hj =>
            obtain rfl : Value.int .i64 x.tx = u := by simpa [cellsH] using hj
            rw [Array.getElem?_setIfInBounds, if_neg (by omega), Array.getElem?_setIfInBounds, if_neg (by omega), Array.getElem?_setIfInBounds, if_pos (by omega), if_pos (by simpa using i0)]
          | 1, _, hj =>
            obtain rfl : Value.int .i64 x.what = u := by simpa [cellsH] using hj
            rw [Array.getElem?_setIfInBounds, if_neg (by omega), Array.getElem?_setIfInBounds, if_pos (by omega), if_pos (by simpa using i1)]
          | 2, _, hj =>
            obtain rfl : Value.int .i64 x.item = u := by simpa [cellsH] using hj
            rw [Array.getElem?_setIfInBounds, if_pos (by omega), if_pos (by simpa using i2)]
      · refine ⟨rfl, rfl, rfl, ?_, fun k hk hne => ?_⟩
        · simp [World.setCells, World.setCell, cellsH]
        · have hk2 : k ≠ g := fun e => hne (by rw [e]; rfl)
          simp only [cellsH, List.flatMap_cons, List.flatMap_nil, List.append_nil, World.setCells]
          rw [Below.heap_setCell _ _ _ k hk2, Below.heap_setCell _ _ _ k hk2, Below.heap_setCell _ _ _ k hk2]
    · have hcl2 : c = l.length := by omega
      have holds : ∀ j u, (cellsH l)[j]? = some u → w.cell? ((⟨g, o, none⟩ : Addr).add j) = some u := by
        intro j u hu
        have hj := h7 j u hu
        unfold Addr.add
        split
        · next h => subst h; simp only [Nat.add_zero] at hj; simp [World.cell?, h3, hj]
        · simp [World.cell?, h3, hj]
      obtain ⟨v', w', hrun, h8, h9⟩ := run_append_arg_grows (P := P) (w := w) t ty e i z 3 24 ht hi hz hsize hby hzs (by omega) ⟨g, o, none⟩ l.length c (cellsH l) (by rw [cellsH_length]) holds ⟨b, off, none⟩ 1 c1 (cellsH [x]) (by simp [cellsH]) hnews (by omega) (by unfold maxLen; omega) hb
      refine ⟨v', w', hrun, QRow.of_own (n := l.length + 1) ?_ (by simp), ⟨h9.os, h9.tape, h9.output, h9.size, fun k hk _ => h9.block k hk (by simp)⟩, .inr ?_⟩
      · have e1 : cellsH (l ++ [x]) = cellsH l ++ cellsH [x] := by simp [cellsH]
        rw [e1]
        exact own_mono h8 hbase
      · rcases h8.2 with ⟨_, h0⟩ | ⟨k, cap, cur', rfl, hk, _⟩
        · omega
        · exact ⟨k, rfl, hk⟩
end
end Go.Proofs.YtbccnafdfeempaaGreatDoor
