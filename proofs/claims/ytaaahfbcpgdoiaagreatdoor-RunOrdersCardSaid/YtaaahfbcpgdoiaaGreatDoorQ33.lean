
/-
  WHAT TURNED: of what was there only the blocks of a set.
  CONTRACTS of (*run.desk).order, faces, line where the line is an order, a view, faces or a history (printed by wip/mkrunb.py).
  CONTRACTS of strings.Cut at a blank, and of (*run.desk).line where it is a history, order, view or faces (printed by wip/mkrunc.py).
  ROWS OF OPS that are cut at their head and grow at their end.
-/
import Derived.Test.YtaaahfbcpgdoiaaGreatDoorQ0
import Derived.Test.YtaaahfbcpgdoiaaGreatDoorRunA
import Derived.Test.YtaaahfbcpgdoiaaGreatDoorQ6
import Derived.Test.YtaaahfbcpgdoiaaGreatDoorQ25
import Derived.Test.YtaaahfbcpgdoiaaGreatDoorQ31
import Derived.Test.YtaaahfbcpgdoiaaGreatDoorQ32
import Derived.Shelf.Strings.Cut
import Derived.Test.YtaaahfbcpgdoiaaGreatDoorQ20
import Derived.ArgAppend

namespace Go.Proofs.YtaaahfbcpgdoiaaGreatDoor
open Go.RowKit

/-- Of what was there only the blocks of S have turned. -/
structure Chg (S : Nat → Prop) (w w' : World) : Prop where
  os : w'.os = w.os
  tape : w'.tape = w.tape
  output : w'.output = w.output
  size : w.heap.size ≤ w'.heap.size
  block : ∀ k, k < w.heap.size → ¬ S k → w'.heap[k]? = w.heap[k]?
theorem Chg.below {S : Nat → Prop} {w w' : World} {lo : Nat} (h : Chg S w w') (hS : ∀ k, S k → lo ≤ k) (hlo : lo ≤ w.heap.size) : Below lo w w' :=
  ⟨h.os, h.tape, h.output, h.size, fun k hk => h.block k (by omega) (fun hs => by have := hS k hs; omega)⟩
theorem Chg.of_below {S : Nat → Prop} {w w' : World} (h : Below w.heap.size w w') : Chg S w w' := ⟨h.os, h.tape, h.output, h.size, fun k hk _ => h.block k hk⟩
theorem Chg.mono {S S' : Nat → Prop} {w w' : World} (h : Chg S w w') (hS : ∀ k, S k → S' k ∨ w.heap.size ≤ k) : Chg S' w w' :=
  ⟨h.os, h.tape, h.output, h.size, fun k hk hn => h.block k hk (fun hs => by rcases hS k hs with h1 | h1; exact hn h1; omega)⟩
theorem Chg.trans {S : Nat → Prop} {a b c : World} (h : Chg S a b) (k : Chg S b c) : Chg S a c :=
  ⟨k.os.trans h.os, k.tape.trans h.tape, k.output.trans h.output, Nat.le_trans h.size k.size, fun i hi hn => (k.block i (Nat.lt_of_lt_of_le hi h.size) hn).trans (h.block i hi hn)⟩
theorem Chg.set {S : Nat → Prop} {a w : World} (h : Chg S a w) {p : Addr} (hp : S p.block ∨ a.heap.size ≤ p.block) (u : Value) : Chg S a (w.setCell p u) :=
  ⟨h.os, h.tape, h.output, by simpa [World.setCell] using h.size, fun i hi hn => (Below.heap_setCell w p u i (fun e => by rw [e] at hi hn; rcases hp with h1 | h1; exact hn h1; omega)).trans (h.block i hi hn)⟩
theorem Chg.alloc {S : Nat → Prop} {a w : World} (h : Chg S a w) (o : Obj) : Chg S a (w.alloc o) :=
  ⟨h.os, h.tape, h.output, by have := h.size; simp; omega, fun i hi hn => (Below.heap_alloc w o i (Nat.lt_of_lt_of_le hi h.size)).trans (h.block i hi hn)⟩
theorem Chg.drew {S : Nat → Prop} {a w : World} (h : Chg S a w) : Chg S a w.drew := ⟨h.os, h.tape, h.output, h.size, h.block⟩
theorem Chg.drewN {S : Nat → Prop} {a w : World} (h : Chg S a w) (n : Nat) : Chg S a (w.drewN n) := ⟨h.os, h.tape, h.output, h.size, h.block⟩
theorem Chg.grown {S : Nat → Prop} {a w w' : World} {row : Option Nat} (h : Chg S a w) (hg : w.grownBy w' row) (hr : ∀ k, row = some k → S k ∨ a.heap.size ≤ k) : Chg S a w' :=
  ⟨hg.os.trans h.os, hg.tape.trans h.tape, hg.output.trans h.output, Nat.le_trans h.size hg.size, fun i hi hn => (hg.block i (Nat.lt_of_lt_of_le hi h.size) (fun e => by rcases hr i e.symm with h1 | h1; exact hn h1; omega)).trans (h.block i hi hn)⟩
theorem Chg.refl (S : Nat → Prop) (w : World) : Chg S w w := ⟨rfl, rfl, rfl, Nat.le_refl _, fun _ _ _ => rfl⟩
theorem Chg.then_below {S : Nat → Prop} {a b c : World} (h : Chg S a b) (k : Below b.heap.size b c) : Chg S a c := h.trans (Chg.of_below k)

theorem Chg.next {S S' : Nat → Prop} {a b c : World} (h : Chg S a b) (k : Chg S' b c) (hs : ∀ i, S' i → S i ∨ a.heap.size ≤ i) : Chg S a c :=
  ⟨k.os.trans h.os, k.tape.trans h.tape, k.output.trans h.output, Nat.le_trans h.size k.size, fun i hi hn => (k.block i (Nat.lt_of_lt_of_le hi h.size) (fun h1 => by rcases hs i h1 with h2 | h2; exact hn h2; omega)).trans (h.block i hi hn)⟩
theorem own_chg {S : Nat → Prop} {w w' : World} {base : Nat} {e : TypeId} {size : Nat} {v : Value} {n : Nat} {xs : List Value} (h : w.ownsRow base e size v n xs) (hb : Chg S w w') (hs : ∀ k, v.ownBlock = some k → ¬ S k) : w'.ownsRow base e size v n xs := by
  refine ⟨h.1, ?_⟩
  rcases h.2 with hn | ⟨g, cap, cur, rfl, hbb, hgg, rest⟩
  · exact .inl hn
  · refine .inr ⟨g, cap, cur, rfl, hbb, ?_, rest⟩
    rw [hb.block g (Array.getElem?_eq_some_iff.1 hgg).1 (hs g rfl)]
    exact hgg
theorem own_same {w w' : World} {base : Nat} {e : TypeId} {size : Nat} {v : Value} {n : Nat} {xs : List Value} (h : w.ownsRow base e size v n xs) (hs : ∀ k, v.ownBlock = some k → w'.heap[k]? = w.heap[k]?) : w'.ownsRow base e size v n xs := by
  refine ⟨h.1, ?_⟩
  rcases h.2 with hn | ⟨g, cap, cur, rfl, hbb, hgg, rest⟩
  · exact .inl hn
  · exact .inr ⟨g, cap, cur, rfl, hbb, (hs g rfl).trans hgg, rest⟩
theorem Blk.chg {S : Nat → Prop} {w w' : World} {g : Nat} {t : TypeId} {cs : List Value} (h : Blk w g t cs) (hb : Chg S w w') (hs : ¬ S g) : Blk w' g t cs := (hb.block g h.lt hs).trans h
theorem step_app2 {P : Program} {w : World} {ops : Array Oper} {o : Oper} {a : Act} {K : Act → World → Prop} {Q : Exit → Act → World → Prop} {E : Prop} (hgd : o.guard = none) (s x : Operand) (t : TypeId)
    (ho : o.op = .call { callee := .builtin .append, args := #[s, x], argTypes := #[t, t] })
    {e : TypeId} {size bytes : Nat} (base : Nat) (T : SlT P t e size bytes) {v : Value} {n : Nat} {xs : List Value} (hs : a.eval s = v) (hown : w.ownsRow base e size v n xs)
    {B : Nat} {A : Option Addr} {m c : Nat} {news : List Value} (hx : a.eval x = .slice A m c) (hr : Rd w B size A m news) (h1 : ∀ u ∈ news, u.oneCell' = true) (hbytes : (n + m) * bytes ≤ 140737488355328) (hbase : base ≤ w.heap.size)
    (h : ∀ v' w', w'.ownsRow base e size v' (n + m) (xs ++ news) → w.grownBy w' v.ownBlock → (v'.ownBlock = v.ownBlock ∨ v'.ownBlock = some w.heap.size) → K (a.put o.dst v') w') :
    if Region.wanted o (yielded ops a.tmps) = true then Oper.wp P o a w K Q else E := by
  rw [if_pos (by simp [Region.wanted, hgd])]
  exact wp_app s x t ho base T hs hown hx hr h1 hbytes hbase fun v' w' h2 h3 _ h5 _ => h v' w' h2 h3 h5
/-- A row stays while a block of another type is written. -/
theorem own_set_blk {w : World} {base : Nat} {e t : TypeId} {size : Nat} {v : Value} {n g : Nat} {xs cs : List Value} (h : w.ownsRow base e size v n xs) (hB : Blk w g t cs) (hne : t ≠ e) (i : Nat) (u : Value) : (w.setCell ⟨g, i, none⟩ u).ownsRow base e size v n xs := by
  refine h.kept (row := some g) ⟨rfl, rfl, rfl, by simp [World.setCell], fun k _ hk => Below.heap_setCell w _ u k (fun e => hk (by rw [e]))⟩ ?_
  rcases h.2 with ⟨rfl, _⟩ | ⟨g', cap, cur, rfl, _, hh, _⟩
  · exact .inl rfl
  · right
    intro he
    simp [Value.ownBlock] at he
    subst he
    unfold Blk at hB
    rw [hB] at hh
    injection hh with hh
    injection hh with _ ht
    exact hne ht
end Go.Proofs.YtaaahfbcpgdoiaaGreatDoor


namespace Go.Proofs.YtaaahfbcpgdoiaaGreatDoor
open Go.RowKit Go.Shelf

/-- The desk: its history, a row of its own. -/
structure Desk (w : World) (lo gd : Nat) (A : Option Addr) (n c : Nat) (h : List HOp) : Prop where
  blk : Blk w gd 31 [.slice A n c]
  row : w.ownsRow lo 91 3 (.slice A n c) n (cellsH h)
  ok : okH h
  lo : lo ≤ gd
theorem Desk.below {w w' : World} {lo gd : Nat} {A : Option Addr} {n c : Nat} {h : List HOp} (D : Desk w lo gd A n c h) (hb : Below w.heap.size w w') : Desk w' lo gd A n c h := ⟨D.blk.below hb D.blk.lt, own_below D.row hb (Nat.le_refl _), D.ok, D.lo⟩
theorem Desk.len {w : World} {lo gd : Nat} {A : Option Addr} {n c : Nat} {h : List HOp} (D : Desk w lo gd A n c h) : n ≤ 40 := by rw [← (rd_own D.row).hlen]; exact okH_len D.ok
theorem own_capR {w : World} {base : Nat} {e : TypeId} {size : Nat} {A : Option Addr} {n c : Nat} {xs : List Value} (h : w.ownsRow base e size (.slice A n c) n xs) : n ≤ c := by
  obtain ⟨_, ⟨he, h0⟩ | ⟨g, cap, cur, he, _, _, h1, _⟩⟩ := h
  · omega
  · injection he with e1 e2 e3; omega
theorem ordL_facts {h : List HOp} (hok : okH h) : (ordL h).length ≤ 6 ∧ ∀ x ∈ ordL h, 1 ≤ x ∧ x ≤ 6 := by
  unfold ordL
  rw [if_neg (fun e => e hok)]
  cases ho : orderOf h with
  | none => exact ⟨by simp, fun x hx => by cases hx⟩
  | some o =>
    obtain ⟨h1, h2, _⟩ := orderOf_some ho
    have hr : ∀ x ∈ o, 1 ≤ x ∧ x ≤ 6 := fun x hx => by
      obtain ⟨y, hy, rfl⟩ := mem_dealsL.1 ((h2 x).1 hx)
      exact done_tx (okH_tx hok) y hy
    refine ⟨?_, hr⟩
    have hs : o ⊆ [1, 2, 3, 4, 5, 6] := fun x hx => by have := hr x hx; simp; omega
    exact nodup_le h1 hs
theorem vordL_facts {h : List HOp} (hok : okH h) : (vordL h).length ≤ 6 ∧ ∀ x ∈ vordL h, 1 ≤ x ∧ x ≤ 6 := by
  unfold vordL
  rw [if_neg (fun e => e hok)]
  cases ho : vOrd (doneL h) with
  | none => exact ⟨by simp, fun x hx => by cases hx⟩
  | some o =>
    obtain ⟨_, h1, h2⟩ := vOrd_some ho
    have hr : ∀ x ∈ o, 1 ≤ x ∧ x ≤ 6 := fun x hx => by
      obtain ⟨y, hy, rfl⟩ := mem_dealsL.1 ((h2 x).1 hx)
      exact done_tx (okH_tx hok) y hy
    refine ⟨?_, hr⟩
    have hs : o ⊆ [1, 2, 3, 4, 5, 6] := fun x hx => by have := hr x hx; simp; omega
    exact nodup_le h1 hs
theorem itoa_deal {x : Int} (h : 1 ≤ x ∧ x ≤ 6) (w : World) : ItoaC w x ∧ (Go.Lib.itoa x).length ≤ 20 := by
  obtain ⟨d, rfl⟩ : ∃ d : Nat, x = d := ⟨x.toNat, by omega⟩
  have e : Go.Lib.itoa (d : Int) = Go.Lib.decDigits d := by
    unfold Go.Lib.itoa
    rw [if_neg (by omega), Int.toNat_natCast]
  rw [e]
  refine ⟨fun w1 _ => ?_, ?_⟩
  · rw [e]
    exact (Any.strconv_Itoa_small { Tryz.lItoa with } d (by omega) w1).mono fun e w' ⟨h1, h2⟩ => ⟨h1, by rw [h2]; exact Below.refl _ _⟩
  · unfold Go.Lib.decDigits
    rw [dif_pos (by omega)]
    simp

theorem call_sord (args : Array Value) (w : World) : (callFunc 24 args).run Tryz.prog w = .ok (.enter 24 args) w := by kernel_rfl
set_option maxHeartbeats 1000000 in
theorem dorder_sord (lo gd : Nat) (A : Option Addr) (n c : Nat) (h : List HOp) (w : World) (D : Desk w lo gd A n c h) :
    Calls Tryz.prog 23 #[.pointer (some ⟨gd, 0, none⟩), .func (.func 24) #[] #[]] w fun e w' => e = .returned (.tuple #[.string ⟨(numsW (ordL h)).toArray⟩, errV (ordE h)]) ∧ Below w.heap.size w w' := by
  have hl := D.len
  have CO := hide (sorder_any A n c h w (rd_own D.row) (by omega))
  have HF := Lib.hid (ordL_facts D.ok)
  have k0 := D.blk.cellS (i := 0) (v := .slice A n c) rfl
  generalize ordL h = L at *
  generalize ordE h = ev at *
  have hcall := call_sord
  clear D
  go_enter Tryz.func23, Tryz.ntmps23
  go_wp2_with fail
  refine (unhide CO).mono ?_
  rintro e w1 ⟨v, k, rfl, ho, hb1⟩
  obtain ⟨A1, c1, rfl⟩ := own_slice ho
  have hr1 := rd_own ho
  have hk6 : k ≤ 6 := by rw [← hr1.ilen]; exact HF.out.1
  have CN := hide (numbers_any A1 k c1 L w1 hr1 (by omega) (fun x hx => itoa_deal (HF.out.2 x hx) w1))
  clear CO hcall
  go_wp2_with fail
  refine (unhide CN).mono ?_
  rintro e w2 ⟨rfl, hb2⟩
  go_wp2
  go_ret2
  exact ⟨rfl, hb1.trans (hb2.mono hb1.size)⟩
theorem call_vord (args : Array Value) (w : World) : (callFunc 25 args).run Tryz.prog w = .ok (.enter 25 args) w := by kernel_rfl
set_option maxHeartbeats 1000000 in
theorem dorder_vord (lo gd : Nat) (A : Option Addr) (n c : Nat) (h : List HOp) (w : World) (D : Desk w lo gd A n c h) :
    Calls Tryz.prog 23 #[.pointer (some ⟨gd, 0, none⟩), .func (.func 25) #[] #[]] w fun e w' => e = .returned (.tuple #[.string ⟨(numsW (vordL h)).toArray⟩, errV (vordE h)]) ∧ Below w.heap.size w w' := by
  have hl := D.len
  have CO := hide (vorder_any A n c h w (rd_own D.row) (by omega))
  have HF := Lib.hid (vordL_facts D.ok)
  have k0 := D.blk.cellS (i := 0) (v := .slice A n c) rfl
  generalize vordL h = L at *
  generalize vordE h = ev at *
  have hcall := call_vord
  clear D
  go_enter Tryz.func23, Tryz.ntmps23
  go_wp2_with fail
  refine (unhide CO).mono ?_
  rintro e w1 ⟨A1, k, c1, rfl, hr1, hb1⟩
  have hk6 : k ≤ 6 := by rw [← hr1.ilen]; exact HF.out.1
  have CN := hide (numbers_any A1 k c1 L w1 hr1 (by omega) (fun x hx => itoa_deal (HF.out.2 x hx) w1))
  clear CO hcall
  go_wp2_with fail
  refine (unhide CN).mono ?_
  rintro e w2 ⟨rfl, hb2⟩
  go_wp2
  go_ret2
  exact ⟨rfl, hb1.trans (hb2.mono hb1.size)⟩
/-- Faces as words. -/
def facesW (f : FacesV) : List UInt8 := flagsW [([114, 101, 99, 111, 118, 101, 114, 97, 98, 108, 101], f.recov), ([99, 97, 117, 116, 105, 111, 117, 115], f.caut), ([115, 116, 114, 105, 99, 116], f.strict), ([114, 105, 103, 111, 114, 111, 117, 115], f.rig)]
set_option maxRecDepth 100000 in
set_option maxHeartbeats 2000000 in
theorem dfaces_any (lo gd : Nat) (A : Option Addr) (n c : Nat) (h : List HOp) (w : World) (D : Desk w lo gd A n c h) :
    Calls Tryz.prog 27 #[.pointer (some ⟨gd, 0, none⟩)] w fun e w' => e = .returned (.tuple #[.string ⟨(facesW (facesF h)).toArray⟩, .nilIface]) ∧ Below w.heap.size w w' := by
  have CO := hide (facesOf_ok A n c h w (rd_own D.row) (own_capR D.row) D.ok)
  have k0 := D.blk.cellS (i := 0) (v := .slice A n c) rfl
  obtain ⟨fv, hfv⟩ : ∃ fv, facesF h = fv := ⟨_, rfl⟩
  rw [hfv] at CO ⊢
  clear hfv
  obtain ⟨q0, q1, q2, q3⟩ := fv
  unfold FacesV.val at CO
  simp only at CO
  clear D
  go_enter Tryz.func27, Tryz.ntmps27
  go_wp2_with fail
  refine (unhide CO).mono ?_
  rintro e w1 ⟨rfl, hb1⟩
  have hba : Below w1.heap.size w1 (w1.alloc (.cells #[.bool q0, .bool q1, .bool q2, .bool q3] 107)) := (Below.refl _ _).alloc (Nat.le_refl _) _
  have hz : (w1.alloc (.cells #[.bool q0, .bool q1, .bool q2, .bool q3] 107)).heap.size = w1.heap.size + 1 := by simp
  have CN := hide (flags_any (some ⟨w1.heap.size + 1, 0, none⟩) 4 4 [([114, 101, 99, 111, 118, 101, 114, 97, 98, 108, 101], q0), ([99, 97, 117, 116, 105, 111, 117, 115], q1), ([115, 116, 114, 105, 99, 116], q2), ([114, 105, 103, 111, 114, 111, 117, 115], q3)] ((w1.alloc (.cells #[.bool q0, .bool q1, .bool q2, .bool q3] 107)).alloc (.cells (cellsFl [([114, 101, 99, 111, 118, 101, 114, 97, 98, 108, 101], q0), ([99, 97, 117, 116, 105, 111, 117, 115], q1), ([115, 116, 114, 105, 99, 116], q2), ([114, 105, 103, 111, 114, 111, 117, 115], q3)]).toArray 112)) (by
    exact (rd_new' (w1.alloc (.cells #[.bool q0, .bool q1, .bool q2, .bool q3] 107)) 112 (size := 2) (n := 4) (g := w1.heap.size + 1) (cellsFl [([114, 101, 99, 111, 118, 101, 114, 97, 98, 108, 101], q0), ([99, 97, 117, 116, 105, 111, 117, 115], q1), ([115, 116, 114, 105, 99, 116], q2), ([114, 105, 103, 111, 114, 111, 117, 115], q3)]) (by simp) (by simp [cellsFl])).more (by simp)) (by omega) (fun f hf => by
    simp only [List.mem_cons, List.not_mem_nil, or_false] at hf
    rcases hf with rfl | rfl | rfl | rfl <;> simp))
  rw [show flagsW [([114, 101, 99, 111, 118, 101, 114, 97, 98, 108, 101], q0), ([99, 97, 117, 116, 105, 111, 117, 115], q1), ([115, 116, 114, 105, 99, 116], q2), ([114, 105, 103, 111, 114, 111, 117, 115], q3)] = facesW ⟨q0, q1, q2, q3⟩ from rfl] at CN
  have hbb := hba.alloc hba.size (.cells (cellsFl [([114, 101, 99, 111, 118, 101, 114, 97, 98, 108, 101], q0), ([99, 97, 117, 116, 105, 111, 117, 115], q1), ([115, 116, 114, 105, 99, 116], q2), ([114, 105, 103, 111, 114, 111, 117, 115], q3)]).toArray 112)
  clear CO hba hz
  go_wp2_with fail
  refine (unhide CN).mono ?_
  rintro e w2 ⟨rfl, hb2⟩
  go_wp2
  go_ret2
  exact ⟨rfl, hb1.trans ((hbb.trans (hb2.mono hbb.size)).mono hb1.size)⟩
end Go.Proofs.YtaaahfbcpgdoiaaGreatDoor


namespace Go.Proofs.YtaaahfbcpgdoiaaGreatDoor
open Go.RowKit Go.Shelf

theorem cut_any (s : List UInt8) (w : World) (hm : Mx w) (hs : s.length < 4294967281) :
    Calls Tryz.prog 21 #[.string ⟨s.toArray⟩, .string ⟨#[32]⟩] w fun e w' => e = .returned (.tuple #[.string ⟨(Go.Lib.cut s [32]).1.toArray⟩, .string ⟨(Go.Lib.cut s [32]).2.1.toArray⟩, .bool (Go.Lib.cut s [32]).2.2]) ∧ Below w.heap.size w w' := by
  obtain ⟨m, hm⟩ := hm
  refine (Any.strings_Cut { Tryz.lCut with } ⟨s.toArray⟩ ⟨#[32]⟩ m w (by simpa [ByteArray.size] using hs) hm).mono fun e w' ⟨h1, h2⟩ => ⟨h1, ?_⟩
  obtain ⟨k, rfl⟩ := h2
  exact below_drewN (Below.refl _ _) k
theorem strL_beq (a b : List UInt8) : ((⟨a.toArray⟩ : ByteArray).toList == (⟨b.toArray⟩ : ByteArray).toList) = (a == b) := by
  rw [ByteArray.toList_eq, ByteArray.toList_eq]
def histB : List UInt8 := [104, 105, 115, 116, 111, 114, 121]
theorem cut_hist (T : List UInt8) : Go.Lib.cut (histB ++ 32 :: T) [32] = (histB, T, true) := by
  have h : Go.Lib.index (histB ++ 32 :: T) [32] = 7 := by
    rw [Go.Lib.index_one]
    simp [histB, Go.Lib.indexByte]
  unfold Go.Lib.cut
  rw [h, if_pos (by omega)]
  rfl
/-- What a line leaves. -/
def LineP (w : World) (lo gd : Nat) (h : List HOp) (out : List UInt8) (ev : Value) (e : Ending) (w' : World) : Prop :=
  e = .returned (.tuple #[.string ⟨out.toArray⟩, ev]) ∧ ∃ A n c, Desk w' lo gd A n c h ∧ Chg (fun k => k = gd) w w'
theorem LineP.same {w w' : World} {lo gd : Nat} {A : Option Addr} {n c : Nat} {h : List HOp} {out : List UInt8} {ev : Value} {e : Ending} (D : Desk w lo gd A n c h) (hb : Below w.heap.size w w') (he : e = .returned (.tuple #[.string ⟨out.toArray⟩, ev])) : LineP w lo gd h out ev e w' :=
  ⟨he, A, n, c, D.below hb, Chg.of_below hb⟩
set_option maxRecDepth 100000 in
set_option maxHeartbeats 2000000 in
theorem line_hist (T : List UInt8) (hT : parseE T = 0) (lo gd : Nat) (A : Option Addr) (n c : Nat) (h : List HOp) (w : World) (hm : Mx w) (hg : 2 < lo) (D : Desk w lo gd A n c h) (hs : T.length ≤ 4000) :
    Calls Tryz.prog 15 #[.pointer (some ⟨gd, 0, none⟩), .string ⟨(histB ++ 32 :: T).toArray⟩] w (LineP w lo gd (parseL T) [111, 107] .nilIface) := by
  have CC := hide (cut_any (histB ++ 32 :: T) w hm (by simp [histB]; omega))
  rw [cut_hist] at CC
  have hlg : gd < w.heap.size := D.blk.lt
  have hD := D.lo
  have CP := hide (fun w1 (hb : Below w.heap.size w w1) => parse_any T w1 (hm.below hb (by omega)) (by omega))
  rw [hT, errV_zero] at CP
  have hPO := (print_parse hT).1
  have HDK := hide D
  have t1 : ((⟨#[104, 105, 115, 116, 111, 114, 121]⟩ : ByteArray).toList == (⟨#[104, 105, 115, 116, 111, 114, 121]⟩ : ByteArray).toList) = true := by simp
  unfold histB at CC ⊢
  generalize hSB : (⟨([104, 105, 115, 116, 111, 114, 121] ++ 32 :: T).toArray⟩ : ByteArray) = SB at *
  generalize hTB : (⟨T.toArray⟩ : ByteArray) = TB at *
  clear hSB hTB hm
  go_enter Tryz.func15, Tryz.ntmps15
  go_wp2_with fail
  refine (unhide CC).mono ?_
  rintro e w1 ⟨rfl, hb1⟩
  have C1 := hide (unhide CP w1 hb1)
  clear CC CP
  go_wp2_with fail
  refine (unhide C1).mono ?_
  rintro e w2 ⟨v2, m2, rfl, ho2, hb2⟩
  obtain ⟨A2, c2, rfl⟩ := own_slice ho2
  have hbw2 := hb1.trans (hb2.mono hb1.size)
  have D2 := (unhide HDK).below hbw2
  have k0 := D2.blk.cellS (i := 0) (v := .slice A n c) rfl
  have f0 := D2.blk.frozen 0
  have hlo2 : lo ≤ w1.heap.size := by have := hb1.size; omega
  have hF : LineP w lo gd (parseL T) [111, 107] .nilIface (.returned (.tuple #[.string ⟨#[111, 107]⟩, .nilIface])) (w2.setCell ⟨gd, 0, none⟩ (.slice A2 m2 c2)) :=
    ⟨rfl, A2, m2, c2, ⟨D2.blk.put 0 _, own_set_blk (own_mono ho2 hlo2) D2.blk (by decide) 0 _, hPO, hD⟩, (Chg.of_below hbw2 : Chg (fun k => k = gd) w w2).set (p := ⟨gd, 0, none⟩) (.inl rfl) _⟩
  have HFF := Lib.hid hF
  clear hF C1 ho2 D2
  go_wp2
  go_ret2
  exact HFF.out

set_option maxRecDepth 100000 in
set_option maxHeartbeats 2000000 in
theorem line_order (lo gd : Nat) (A : Option Addr) (n c : Nat) (h : List HOp) (w : World) (hm : Mx w) (D : Desk w lo gd A n c h) :
    Calls Tryz.prog 15 #[.pointer (some ⟨gd, 0, none⟩), .string ⟨#[111, 114, 100, 101, 114]⟩] w (LineP w lo gd h (numsW (ordL h)) (errV (ordE h))) := by
  have CC := hide (cut_any [111, 114, 100, 101, 114] w hm (by decide))
  rw [show Go.Lib.cut [111, 114, 100, 101, 114] [32] = ([111, 114, 100, 101, 114], [], false) by decide] at CC
  have CD := hide (fun w1 (hb : Below w.heap.size w w1) => dorder_sord lo gd A n c h w1 (D.below hb))
  have HDK := hide D
  have t0 : ((⟨#[111, 114, 100, 101, 114]⟩ : ByteArray).toList == (⟨#[104, 105, 115, 116, 111, 114, 121]⟩ : ByteArray).toList) = false := (strL_beq [111, 114, 100, 101, 114] [104, 105, 115, 116, 111, 114, 121]).trans (by decide)
  have t1 : ((⟨#[111, 114, 100, 101, 114]⟩ : ByteArray).toList == (⟨#[111, 114, 100, 101, 114]⟩ : ByteArray).toList) = true := (strL_beq [111, 114, 100, 101, 114] [111, 114, 100, 101, 114]).trans (by decide)
  clear hm D
  go_enter Tryz.func15, Tryz.ntmps15
  go_wp2_with fail
  refine (unhide CC).mono ?_
  rintro e w1 ⟨rfl, hb1⟩
  have C1 := hide (unhide CD w1 hb1)
  clear CC CD
  go_wp2_with fail
  refine (unhide C1).mono ?_
  rintro e w2 ⟨rfl, hb2⟩
  go_wp2
  go_ret2
  exact LineP.same (unhide HDK) (hb1.trans (hb2.mono hb1.size)) rfl
set_option maxRecDepth 100000 in
set_option maxHeartbeats 2000000 in
theorem line_view (lo gd : Nat) (A : Option Addr) (n c : Nat) (h : List HOp) (w : World) (hm : Mx w) (D : Desk w lo gd A n c h) :
    Calls Tryz.prog 15 #[.pointer (some ⟨gd, 0, none⟩), .string ⟨#[118, 105, 101, 119]⟩] w (LineP w lo gd h (numsW (vordL h)) (errV (vordE h))) := by
  have CC := hide (cut_any [118, 105, 101, 119] w hm (by decide))
  rw [show Go.Lib.cut [118, 105, 101, 119] [32] = ([118, 105, 101, 119], [], false) by decide] at CC
  have CD := hide (fun w1 (hb : Below w.heap.size w w1) => dorder_vord lo gd A n c h w1 (D.below hb))
  have HDK := hide D
  have t0 : ((⟨#[118, 105, 101, 119]⟩ : ByteArray).toList == (⟨#[104, 105, 115, 116, 111, 114, 121]⟩ : ByteArray).toList) = false := (strL_beq [118, 105, 101, 119] [104, 105, 115, 116, 111, 114, 121]).trans (by decide)
  have t1 : ((⟨#[118, 105, 101, 119]⟩ : ByteArray).toList == (⟨#[111, 114, 100, 101, 114]⟩ : ByteArray).toList) = false := (strL_beq [118, 105, 101, 119] [111, 114, 100, 101, 114]).trans (by decide)
  have t2 : ((⟨#[118, 105, 101, 119]⟩ : ByteArray).toList == (⟨#[118, 105, 101, 119]⟩ : ByteArray).toList) = true := (strL_beq [118, 105, 101, 119] [118, 105, 101, 119]).trans (by decide)
  clear hm D
  go_enter Tryz.func15, Tryz.ntmps15
  go_wp2_with fail
  refine (unhide CC).mono ?_
  rintro e w1 ⟨rfl, hb1⟩
  have C1 := hide (unhide CD w1 hb1)
  clear CC CD
  go_wp2_with fail
  refine (unhide C1).mono ?_
  rintro e w2 ⟨rfl, hb2⟩
  go_wp2
  go_ret2
  exact LineP.same (unhide HDK) (hb1.trans (hb2.mono hb1.size)) rfl
set_option maxRecDepth 100000 in
set_option maxHeartbeats 2000000 in
theorem line_faces (lo gd : Nat) (A : Option Addr) (n c : Nat) (h : List HOp) (w : World) (hm : Mx w) (D : Desk w lo gd A n c h) :
    Calls Tryz.prog 15 #[.pointer (some ⟨gd, 0, none⟩), .string ⟨#[102, 97, 99, 101, 115]⟩] w (LineP w lo gd h (facesW (facesF h)) .nilIface) := by
  have CC := hide (cut_any [102, 97, 99, 101, 115] w hm (by decide))
  rw [show Go.Lib.cut [102, 97, 99, 101, 115] [32] = ([102, 97, 99, 101, 115], [], false) by decide] at CC
  have CD := hide (fun w1 (hb : Below w.heap.size w w1) => dfaces_any lo gd A n c h w1 (D.below hb))
  have HDK := hide D
  have t0 : ((⟨#[102, 97, 99, 101, 115]⟩ : ByteArray).toList == (⟨#[104, 105, 115, 116, 111, 114, 121]⟩ : ByteArray).toList) = false := (strL_beq [102, 97, 99, 101, 115] [104, 105, 115, 116, 111, 114, 121]).trans (by decide)
  have t1 : ((⟨#[102, 97, 99, 101, 115]⟩ : ByteArray).toList == (⟨#[111, 114, 100, 101, 114]⟩ : ByteArray).toList) = false := (strL_beq [102, 97, 99, 101, 115] [111, 114, 100, 101, 114]).trans (by decide)
  have t2 : ((⟨#[102, 97, 99, 101, 115]⟩ : ByteArray).toList == (⟨#[118, 105, 101, 119]⟩ : ByteArray).toList) = false := (strL_beq [102, 97, 99, 101, 115] [118, 105, 101, 119]).trans (by decide)
  have t3 : ((⟨#[102, 97, 99, 101, 115]⟩ : ByteArray).toList == (⟨#[118, 97, 108, 117, 101, 115]⟩ : ByteArray).toList) = false := (strL_beq [102, 97, 99, 101, 115] [118, 97, 108, 117, 101, 115]).trans (by decide)
  have t4 : ((⟨#[102, 97, 99, 101, 115]⟩ : ByteArray).toList == (⟨#[102, 97, 99, 101, 115]⟩ : ByteArray).toList) = true := (strL_beq [102, 97, 99, 101, 115] [102, 97, 99, 101, 115]).trans (by decide)
  clear hm D
  go_enter Tryz.func15, Tryz.ntmps15
  go_wp2_with fail
  refine (unhide CC).mono ?_
  rintro e w1 ⟨rfl, hb1⟩
  have C1 := hide (unhide CD w1 hb1)
  clear CC CD
  go_wp2_with fail
  refine (unhide C1).mono ?_
  rintro e w2 ⟨rfl, hb2⟩
  go_wp2
  go_ret2
  exact LineP.same (unhide HDK) (hb1.trans (hb2.mono hb1.size)) rfl
end Go.Proofs.YtaaahfbcpgdoiaaGreatDoor


namespace Go.Proofs.YtaaahfbcpgdoiaaGreatDoor
open Go.RowKit

/-! ### Rows of ops that are cut at their head. -/
def QRow (w : World) (lo : Nat) (e : TypeId) (v : Value) (l : List HOp) : Prop :=
  (v = .slice none 0 0 ∧ l = []) ∨ ∃ g o c cur, v = .slice (some ⟨g, o, none⟩) l.length c ∧ lo ≤ g ∧ w.heap[g]? = some (.cells cur e (0, 0)) ∧ l.length ≤ c ∧ c ≤ maxLen ∧ o + c * 3 ≤ cur.size ∧ ∀ (j : Nat) (u : Value), (cellsH l)[j]? = some u → cur[o + j]? = some u
section
variable {w w' : World} {lo : Nat} {e : TypeId} {v : Value} {l : List HOp}
theorem QRow.nil (w : World) (lo : Nat) (e : TypeId) : QRow w lo e (.slice none 0 0) [] := .inl ⟨rfl, rfl⟩
theorem QRow.kept (h : QRow w lo e v l) (hk : ∀ g, v.ownBlock = some g → w'.heap[g]? = w.heap[g]?) : QRow w' lo e v l := by
  rcases h with h | ⟨g, o, c, cur, rfl, h2, h3, h4⟩
  · exact .inl h
  · exact .inr ⟨g, o, c, cur, rfl, h2, (hk g rfl).trans h3, h4⟩
theorem QRow.lt (h : QRow w lo e v l) {k : Nat} (hk : v.ownBlock = some k) : lo ≤ k ∧ k < w.heap.size := by
  rcases h with ⟨rfl, _⟩ | ⟨g, o, c, cur, rfl, h2, h3, h4⟩
  · cases hk
  · simp [Value.ownBlock] at hk
    subst hk
    exact ⟨h2, (Array.getElem?_eq_some_iff.1 h3).1⟩
theorem QRow.of_own {n : Nat} (h : w.ownsRow lo e 3 v n (cellsH l)) (hn : n = l.length) : QRow w lo e v l := by
  subst hn
  rcases h.2 with ⟨rfl, h0⟩ | ⟨g, cap, cur, rfl, hb, hh, hc, hm, hsz, hx⟩
  · exact .inl ⟨rfl, List.eq_nil_of_length_eq_zero h0⟩
  · refine .inr ⟨g, 0, cap, cur, rfl, hb, hh, hc, hm, by omega, fun j u hu => ?_⟩
    rw [← hx, List.getElem?_take] at hu
    split at hu
    · rw [Nat.zero_add]; simpa using hu
    · cases hu
theorem QRow.shape' (h : QRow w lo e v l) : ∃ A c, v = .slice A l.length c := by
  rcases h with ⟨rfl, rfl⟩ | ⟨g, o, c, cur, rfl, _⟩
  · exact ⟨none, 0, rfl⟩
  · exact ⟨_, c, rfl⟩
/-- Its first op. -/
theorem QRow.head {o : HOp} {t : List HOp} (h : QRow w lo e v (o :: t)) : ∃ g off c, v = .slice (some ⟨g, off, none⟩) (t.length + 1) c ∧ t.length + 1 ≤ c ∧ g < w.heap.size ∧ w.cell? ⟨g, off, none⟩ = some (.int .i64 o.tx) ∧ w.cell? ⟨g, off + 1, none⟩ = some (.int .i64 o.what) ∧ w.cell? ⟨g, off + 2, none⟩ = some (.int .i64 o.item) ∧
    QRow w lo e (.slice (some (if c = 1 then ⟨g, off, none⟩ else ⟨g, off + 3, none⟩)) t.length (c - 1)) t := by
  rcases h with ⟨_, h⟩ | ⟨g, off, c, cur, rfl, h2, h3, h4, h5, h6, h7⟩
  · cases h
  · rw [List.length_cons] at h4
    have hc : ∀ j u, (cellsH (o :: t))[j]? = some u → w.cell? ⟨g, off + j, none⟩ = some u := fun j u hu => by
      simp [World.cell?, h3, h7 j u hu]
    refine ⟨g, off, c, rfl, h4, (Array.getElem?_eq_some_iff.1 h3).1, hc 0 _ rfl, hc 1 _ rfl, hc 2 _ rfl, ?_⟩
    by_cases h1 : c = 1
    · have ht : t = [] := List.eq_nil_of_length_eq_zero (by omega)
      subst ht
      rw [if_pos h1]
      exact .inr ⟨g, off, c - 1, cur, rfl, h2, h3, by simp, by omega, by omega, fun j u hu => by simp [cellsH] at hu⟩
    · rw [if_neg h1]
      refine .inr ⟨g, off + 3, c - 1, cur, rfl, h2, h3, by omega, by omega, by omega, fun j u hu => ?_⟩
      have := h7 (j + 3) u (by simpa [cellsH] using hu)
      rw [show off + 3 + j = off + (j + 3) by omega]
      exact this
theorem run_qappH {P : Program} {t ty e : TypeId} (T : SlT P t e 3 24) (h : QRow w lo e v l) {B : Nat} {A : Option Addr} {c1 : Nat} {x : HOp} (hr : Rd w B 3 A 1 (cellsH [x])) (hb : (l.length + 1) * 24 ≤ 140737488355328) (hbase : lo ≤ w.heap.size) :
    ∃ v' w', (Builtin.append_ #[t, t] ty #[v, .slice A 1 c1]).run P w = .ok v' w' ∧ QRow w' lo e v' (l ++ [x]) ∧ w.grownBy w' v.ownBlock ∧ (v'.ownBlock = v.ownBlock ∨ ∃ k, v'.ownBlock = some k ∧ w.heap.size ≤ k) := by
  obtain ⟨b, off, rfl, _, hcl⟩ := hr.2 (by omega)
  rcases h with ⟨rfl, rfl⟩ | ⟨g, o, c, cur, rfl, h2, h3, h4, h5, h6, h7⟩
  · obtain ⟨v', w', hrun, h1, h2, h3, _⟩ := run_app (P := P) (ty := ty) (base := lo) (c := c1) T (World.ownsRow_nil w lo e 3) hr (oneH _) (by omega) hbase
    refine ⟨v', w', hrun, QRow.of_own (n := 0 + 1) (by simpa using h1) rfl, h2, ?_⟩
    exact h3.imp id fun h => ⟨_, h, Nat.le_refl _⟩
  · obtain ⟨i, z, ht, hi, hz, hsize, hby, hzs, h0, hb0, _⟩ := T
    have hnews : ∀ (j : Nat) (u : Value), (cellsH [x])[j]? = some u → w.cell? ((⟨b, off, none⟩ : Addr).add j) = some u := by
      intro j u hu
      have := hcl j u hu
      unfold Addr.add
      split
      · next h => subst h; simpa using this
      · exact this
    have hlt := (Array.getElem?_eq_some_iff.1 h3).1
    by_cases hroom : l.length + 1 ≤ c
    · have hin : ∀ j, j < 3 → o + l.length * 3 + j < cur.size := fun j hj => by omega
      have hr2 := run_append_room_cells (P := P) (w := w) t ty e i ht hi g o l.length c ⟨b, off, none⟩ 1 c1 (cellsH [x]) (by simp [hsize, cellsH]) hnews (oneH _) hroom
        (fun j hj => by
          have hj3 : j < 3 := by simpa [cellsH] using hj
          have := hin j hj3
          rw [hsize]
          simp [World.cell?, h3, this])
        (fun j hj => by simp [World.frozen?, h3])
      refine ⟨_, _, hr2, .inr ⟨g, o, c, ((cur.setIfInBounds (o + l.length * 3) (.int .i64 x.tx)).setIfInBounds (o + l.length * 3 + 1) (.int .i64 x.what)).setIfInBounds (o + l.length * 3 + 2) (.int .i64 x.item), by simp, h2, ?_, by simpa using hroom, h5, by simpa using h6, fun j u hj => ?_⟩, ?_, .inl rfl⟩
      · rw [hsize]
        simp [World.setCells, World.setCell, Array.getElem?_modify, h3, cellsH]
      · have e1 : cellsH (l ++ [x]) = cellsH l ++ cellsH [x] := by simp [cellsH]
        have e2 : (cellsH l).length = l.length * 3 := by rw [cellsH_length]
        rw [e1] at hj
        have i0 := hin 0 (by omega)
        have i1 := hin 1 (by omega)
        have i2 := hin 2 (by omega)
        rcases Nat.lt_or_ge j (l.length * 3) with hjl | hjl
        · rw [List.getElem?_append_left (by omega)] at hj
          rw [Array.getElem?_setIfInBounds, if_neg (by omega), Array.getElem?_setIfInBounds, if_neg (by omega), Array.getElem?_setIfInBounds, if_neg (by omega)]
          exact h7 j u hj
        · rw [List.getElem?_append_right (by omega), e2] at hj
          have hj3 : j - l.length * 3 < 3 := by
            have := (List.getElem?_eq_some_iff.1 hj).1
            simpa [cellsH] using this
          obtain ⟨r, hr⟩ : ∃ r, j = l.length * 3 + r := ⟨j - l.length * 3, by omega⟩
          subst hr
          rw [Nat.add_sub_cancel_left] at hj hj3
          match r, hj3, hj with
          | 0, _, hj =>
            obtain rfl : Value.int .i64 x.tx = u := by simpa [cellsH] using hj
            rw [Array.getElem?_setIfInBounds, if_neg (by omega), Array.getElem?_setIfInBounds, if_neg (by omega), Array.getElem?_setIfInBounds, if_pos (by omega), if_pos (by simpa using i0)]
          | 1, _, hj =>
            obtain rfl : Value.int .i64 x.what = u := by simpa [cellsH] using hj
            rw [Array.getElem?_setIfInBounds, if_neg (by omega), Array.getElem?_setIfInBounds, if_pos (by omega), if_pos (by simpa using i1)]
          | 2, _, hj =>
            obtain rfl : Value.int .i64 x.item = u := by simpa [cellsH] using hj
            rw [Array.getElem?_setIfInBounds, if_pos (by omega), if_pos (by simpa using i2)]
      · refine ⟨rfl, rfl, rfl, ?_, fun k hk hne => ?_⟩
        · simp [World.setCells, World.setCell, cellsH]
        · have hk2 : k ≠ g := fun e => hne (by rw [e]; rfl)
          simp only [cellsH, List.flatMap_cons, List.flatMap_nil, List.append_nil, World.setCells]
          rw [Below.heap_setCell _ _ _ k hk2, Below.heap_setCell _ _ _ k hk2, Below.heap_setCell _ _ _ k hk2]
    · have hcl2 : c = l.length := by omega
      have holds : ∀ j u, (cellsH l)[j]? = some u → w.cell? ((⟨g, o, none⟩ : Addr).add j) = some u := by
        intro j u hu
        have hj := h7 j u hu
        unfold Addr.add
        split
        · next h => subst h; simp only [Nat.add_zero] at hj; simp [World.cell?, h3, hj]
        · simp [World.cell?, h3, hj]
      obtain ⟨v', w', hrun, h8, h9⟩ := run_append_arg_grows (P := P) (w := w) t ty e i z 3 24 ht hi hz hsize hby hzs (by omega) ⟨g, o, none⟩ l.length c (cellsH l) (by rw [cellsH_length]) holds ⟨b, off, none⟩ 1 c1 (cellsH [x]) (by simp [cellsH]) hnews (by omega) (by unfold maxLen; omega) hb
      refine ⟨v', w', hrun, QRow.of_own (n := l.length + 1) ?_ (by simp), ⟨h9.os, h9.tape, h9.output, h9.size, fun k hk _ => h9.block k hk (by simp)⟩, .inr ?_⟩
      · have e1 : cellsH (l ++ [x]) = cellsH l ++ cellsH [x] := by simp [cellsH]
        rw [e1]
        exact own_mono h8 hbase
      · rcases h8.2 with ⟨_, h0⟩ | ⟨k, cap, cur', rfl, hk, _⟩
        · omega
        · exact ⟨k, rfl, hk⟩
end
end Go.Proofs.YtaaahfbcpgdoiaaGreatDoor
