
/-
  CONTRACTS of graph.Sort and its function values, graph.Order.
  CONTRACTS of graph.Order; slices.Index, Contains at edges; graph.around, Ring.
-/
import Derived.Test.YtaaahfbcpgdoiaaGreatDoorQ11
import Derived.WalkSpells

namespace Go.Proofs.YtaaahfbcpgdoiaaGreatDoor
open Go.RowKit Go.Shelf

/-- Is no edge to d from one that is left? -/
def holdsE (left : List Int) (d : Int) (e : Int × Int) : Bool := decide (e.2 = d) && decide (e.1 ∈ left)
def readyB (E : List (Int × Int)) (left : List Int) (d : Int) : Bool := !E.any (holdsE left d)
def topGo (E : List (Int × Int)) : Nat → List Int → List Int → Option (List Int)
  | 0, _, acc => some acc
  | f + 1, left, acc => if idxGo (readyB E left) 0 left < 0 then none else topGo E f (left.eraseIdx (idxGo (readyB E left) 0 left).toNat) (acc ++ [left.getD (idxGo (readyB E left) 0 left).toNat 0])
def topF (E : List (Int × Int)) (deals : List Int) : Option (List Int) := topGo E deals.length (sortI deals) []

theorem sort11_any (e : Int × Int) (d : Int) (A : Option Addr) (n c : Nat) (left : List Int) (gd gl : Nat) (w : World) (hd : Blk w gd 3 [.int .i64 d]) (hl : Blk w gl 24 [.slice A n c]) (hr : Rd w w.heap.size 1 A n (cellsI left)) (hm : n ≤ 1000000000) :
    Calls Tryz.prog 139 #[eVal e, .pointer (some ⟨gd, 0, none⟩), .pointer (some ⟨gl, 0, none⟩)] w fun r w' => r = .returned (.bool (holdsE left d e)) ∧ Below w.heap.size w w' := by
  obtain ⟨x, y⟩ := e
  unfold eVal holdsE
  simp only
  have hb0 : Below w.heap.size w (w.alloc (.cells #[.int .i64 x, .int .i64 y] 237)) := (Below.refl _ _).alloc (Nat.le_refl _) _
  have C := hide (icontains_rd A n c left x _ _ (hr.below hb0) (by omega))
  have e0 := hd.cellS (i := 0) (v := .int .i64 d) rfl
  have e1 := hl.cellS (i := 0) (v := .slice A n c) rfl
  have l0 := hd.lt
  have l1 := hl.lt
  generalize decide (x ∈ left) = q at *
  clear hr hd hl
  by_cases h : y = d
  · subst h
    go_enter Tryz.func139, Tryz.ntmps139
    go_wp2_with fail
    refine (unhide C).mono ?_
    rintro e w' ⟨rfl, rfl⟩
    go_wp2
    go_ret
    exact ⟨by simp, hb0⟩
  · have hb : (y == d) = false := by simpa using h
    have HD : Hid (decide (y = d) = false) := Lib.hid (decide_eq_false h)
    clear h
    go_enter Tryz.func139, Tryz.ntmps139
    go_wp2
    go_ret
    exact ⟨by rw [HD.out]; rfl, hb0⟩
theorem call_sort11 (args : Array Value) (w : World) : (callFunc 139 args).run Tryz.prog w = .ok (.enter 139 args) w := by kernel_rfl
theorem call_sort1 (args : Array Value) (w : World) : (callFunc 137 args).run Tryz.prog w = .ok (.enter 137 args) w := by kernel_rfl
theorem sort1_any (d : Int) (B : Option Addr) (m k : Nat) (E : List (Int × Int)) (A : Option Addr) (n c : Nat) (left : List Int) (ge gl : Nat) (w : World) (he : Blk w ge 173 [.slice B m k]) (hl : Blk w gl 24 [.slice A n c]) (hr : Rd w w.heap.size 1 A n (cellsI left)) (hE : Rd w w.heap.size 2 B m (dcells E)) (hm : n ≤ 1000000000) (hmE : m ≤ 9000000000000) :
    Calls Tryz.prog 137 #[.int .i64 d, .pointer (some ⟨ge, 0, none⟩), .pointer (some ⟨gl, 0, none⟩)] w fun r w' => r = .returned (.bool (readyB E left d)) ∧ Below w.heap.size w w' := by
  have hb0 : Below w.heap.size w (w.alloc (.cells #[.int .i64 d] 3)) := (Below.refl _ _).alloc (Nat.le_refl _) _
  have hd0 := Blk.new w 3 [.int .i64 d]
  have hl0 := hl.alloc (.cells #[.int .i64 d] 3)
  have C := hide (containsFunc_edge B m k E 139 #[.pointer (some ⟨w.heap.size, 0, none⟩), .pointer (some ⟨gl, 0, none⟩)] (holdsE left d) (w.alloc (.cells #[.int .i64 d] 3)) ((hE.below hb0).more hb0.size) hmE call_sort11
    (fun o _ w' hb => sort11_any o d A n c left w.heap.size gl w' (hd0.below hb hd0.lt) (hl0.below hb hl0.lt) ((hr.below (hb0.trans (hb.mono hb0.size))).more (hb0.trans (hb.mono hb0.size)).size) hm))
  have HF : Hid (readyB E left d = !E.any (holdsE left d)) := Lib.hid rfl
  generalize E.any (holdsE left d) = q at *
  have e0 := he.cellS (i := 0) (v := .slice B m k) rfl
  have l0 := he.lt
  clear hd0 hl0 hr hE hl he
  go_enter Tryz.func137, Tryz.ntmps137
  go_wp2_with fail
  refine (unhide C).mono ?_
  rintro e w1 ⟨rfl, hb1⟩
  go_wp2
  go_ret
  exact ⟨by rw [HF.out]; rfl, hb0.trans (hb1.mono hb0.size)⟩

/-- A row whose blocks lie from base on stays while a block ahead of that is written. -/
theorem own_past {w w' : World} {base k : Nat} {e : TypeId} {size : Nat} {v : Value} {n : Nat} {xs : List Value} (h : w.ownsRow base e size v n xs) (hg : w.grownBy w' (some k)) (hk : k < base) : w'.ownsRow base e size v n xs := by
  obtain ⟨hl, h0 | ⟨g, cap, cur, rfl, hb, hh, h1⟩⟩ := h
  · exact ⟨hl, .inl h0⟩
  · exact ⟨hl, .inr ⟨g, cap, cur, rfl, hb, (hg.block g (Array.getElem?_eq_some_iff.1 hh).1 (fun e => by injection e; omega)).trans hh, h1⟩⟩
/-- A row stays while all below a bound stays. -/
theorem own_under {w w' : World} {base B g c : Nat} {e : TypeId} {size : Nat} {n : Nat} {xs : List Value} (h : w.ownsRow base e size (.slice (some ⟨g, 0, none⟩) n c) n xs) (hb : Below B w w') (hg : g < B) : w'.ownsRow base e size (.slice (some ⟨g, 0, none⟩) n c) n xs := by
  obtain ⟨hl, ⟨he, _⟩ | ⟨g', cap, cur, he, hbb, hh, h1⟩⟩ := h
  · cases he
  · injection he with e1 e2 e3
    injection e1 with e1
    injection e1 with e1
    subst e1 e3
    exact ⟨hl, .inr ⟨g, c, cur, rfl, hbb, (hb.block g hg).trans hh, h1⟩⟩
theorem own_far2 {w : World} {base : Nat} {e : TypeId} {size : Nat} {v : Value} {n : Nat} {xs : List Value} (h : w.ownsRow base e size v n xs) {p : Addr} (hp : p.block < base) (u : Value) : (w.setCell p u).ownsRow base e size v n xs := own_far h hp u
theorem own_apart {w : World} {base g c : Nat} {e : TypeId} {size : Nat} {n : Nat} {xs : List Value} (h : w.ownsRow base e size (.slice (some ⟨g, 0, none⟩) n c) n xs) {p : Addr} (hp : g ≠ p.block) (u : Value) : (w.setCell p u).ownsRow base e size (.slice (some ⟨g, 0, none⟩) n c) n xs := by
  obtain ⟨hl, ⟨he, _⟩ | ⟨g', cap, cur, he, hbb, hh, h1⟩⟩ := h
  · cases he
  · injection he with e1 e2 e3
    injection e1 with e1
    injection e1 with e1
    subst e1 e3
    exact ⟨hl, .inr ⟨g, c, cur, rfl, hbb, (Below.heap_setCell w p u g hp).trans hh, h1⟩⟩
def lenV : Value → Nat
  | .slice _ n _ => n
  | _ => 0
def SortPost (E : List (Int × Int)) (deals : List Int) (w : World) (e : Ending) (w' : World) : Prop :=
  ∃ v k r L, e = .returned (.tuple #[v, .bool r]) ∧ w'.ownsRow w.heap.size 3 1 v k (cellsI L) ∧ ((topF E deals = some L ∧ r = true) ∨ (topF E deals = none ∧ r = false ∧ L = [])) ∧ Below w.heap.size w w'

set_option maxRecDepth 100000 in
set_option maxHeartbeats 4000000 in
theorem gsort_any (A : Option Addr) (n c : Nat) (deals : List Int) (B : Option Addr) (m k : Nat) (E : List (Int × Int)) (w : World) (hr : Rd w w.heap.size 1 A n (cellsI deals)) (hE : Rd w w.heap.size 2 B m (dcells E)) (hm : n ≤ 1000000) (hmE : m ≤ 9000000000000) :
    Calls Tryz.prog 89 #[.slice A n c, .slice B m k] w (SortPost E deals w) := by
  have HL := Lib.hid hr.ilen
  have hge := Blk.new w 173 [.slice B m k]
  have hb0 : Below w.heap.size w (w.alloc (.cells #[.slice B m k] 173)) := (Below.refl _ _).alloc (Nat.le_refl _) _
  have C := hide (clone_int A n c (cellsI deals) _ ((hr.below hb0).more hb0.size) (oneI _) (by omega))
  have HTF : Hid (topF E deals = topGo E n (sortI deals) []) := Lib.hid (by unfold topF; rw [HL.out])
  go_enter Tryz.func89, Tryz.ntmps89
  go_wp2_with fail
  refine (unhide C).mono ?_
  rintro e w1 ⟨v1, rfl, ho1, hb1⟩
  obtain ⟨A1, c1, rfl⟩ := own_slice ho1
  have hbw1 := hb0.trans (hb1.mono hb0.size)
  have hge1 := hge.below hb1 hge.lt
  replace ho1 := own_mono ho1 (show w.heap.size ≤ (w.alloc (.cells #[.slice B m k] 173)).heap.size by simp)
  have hgl := Blk.new w1 24 [.slice A1 n c1]
  have hbw2 := hbw1.alloc hbw1.size (.cells #[.slice A1 n c1] 24)
  have hge2 := hge1.alloc (.cells #[.slice A1 n c1] 24)
  have ho2 := own_alloc ho1 (.cells #[.slice A1 n c1] 24)
  have CS := hide (isort_own ho2 hbw2.size (by omega))
  have hgw : w.heap.size < w1.heap.size := hge1.lt
  have hcase := own_some ho1
  clear C hb1 hbw1 hge hge1 hb0
  go_wp2_with fail
  refine (unhide CS).mono ?_
  rintro e w3 ⟨rfl, ho3, hg3, hb3⟩
  have hbw3 := hbw2.trans hb3
  have hgl3 := hgl.other ho2 (by decide) hg3
  have hge3 := hge2.other ho2 (by decide) hg3
  clear CS hg3 hb3 hgl hge2 hbw2 ho2 ho1
  rcases hcase with ⟨rfl, rfl, rfl, _⟩ | ⟨ga, rfl, hga1, hga2, hnc, _⟩
  · have hdl : deals = [] := List.eq_nil_of_length_eq_zero HL.out
    subst hdl
    have e6 := hgl3.cellS (i := 0) (v := .slice none 0 0) rfl
    have HT : Hid (topF E [] = some []) := Lib.hid rfl
    clear hgl3 hge3 ho3
    go_wp2
    go_loop [7] (fun s7 => s7 = .slice none 0 0) (fun _ => 0)
    case atStart => rfl
    case round =>
      subst hrel
      go_wp2
      go_ret2
      exact ⟨_, 0, _, [], rfl, World.ownsRow_nil _ _ _ _, .inl ⟨HT.out, rfl⟩, hbw3⟩
  generalize hgg : w1.heap.size = gl at *
  generalize hge' : w.heap.size = ge at *
  clear hgg
  have hlg : w3.heap.size ≥ gl + 1 := hgl3.lt
  go_wp2
  go_loopw [7] (fun s7 wr => ∃ (left acc : List Int) (p q : Nat), wr.ownsRow (gl + 1) 3 1 s7 q (cellsI acc) ∧ Blk wr gl 24 [.slice (some ⟨ga, 0, none⟩) p c1] ∧ Blk wr ge 173 [.slice B m k] ∧ wr.ownsRow ge 3 1 (.slice (some ⟨ga, 0, none⟩) p c1) p (cellsI left) ∧ p + q = n ∧ Hid (topF E deals = topGo E p left acc) ∧ Below ge w wr) (fun s7 _ => n - lenV s7)
  case atStart => exact ⟨sortI deals, [], n, 0, World.ownsRow_nil _ _ _ _, hgl3, hge3, ho3, by omega, HTF, hbw3⟩
  case round =>
    clear hgl3 hge3 ho3 HTF hbw3 hlg
    obtain ⟨left, acc, p, q, ho7, hgl, hge, hol, hpq, HT, hbw⟩ := hrel
    obtain ⟨A7, c7, rfl⟩ := own_slice ho7
    have e6 := hgl.cellS (i := 0) (v := .slice (some ⟨ga, 0, none⟩) p c1) rfl
    have l6 := hgl.lt
    rcases Nat.eq_zero_or_pos p with h0 | h0
    · subst h0
      have HF : Hid (topF E deals = some acc) := Lib.hid (by rw [HT.out]; rfl)
      go_wp2
      go_ret2
      exact ⟨_, _, _, acc, rfl, by rw [hge']; exact own_mono ho7 (by omega), .inl ⟨HF.out, rfl⟩, by rw [hge']; exact hbw⟩
    · have hRl := rd_own hol
      have HLL := Lib.hid hRl.ilen
      have hEr : Rd wr wr.heap.size 2 B m (dcells E) := by subst hge'; exact (hE.below hbw).more hbw.size
      have CI := hide (indexFunc_int (some ⟨ga, 0, none⟩) p c1 left 137 #[.pointer (some ⟨ge, 0, none⟩), .pointer (some ⟨gl, 0, none⟩)] (readyB E left) wr hRl (by omega) call_sort1
        (fun o _ w' hb => sort1_any o B m k E (some ⟨ga, 0, none⟩) p c1 left ge gl w' (hge.below hb hge.lt) (hgl.below hb hgl.lt) ((hRl.below hb).more hb.size) ((hEr.below hb).more hb.size) (by omega) hmE))
      have hsp := idxGo_spec (readyB E left) 0 left
      obtain ⟨p', rfl⟩ : ∃ p', p = p' + 1 := ⟨p - 1, by omega⟩
      have HT2 : Hid (topF E deals = if idxGo (readyB E left) 0 left < 0 then none else topGo E p' (left.eraseIdx (idxGo (readyB E left) 0 left).toNat) (acc ++ [left.getD (idxGo (readyB E left) 0 left).toNat 0])) := Lib.hid (by rw [HT.out, topGo])
      have hg0 : ga < gl + 1 := by omega
      clear HT hEr hRl
      rcases hsp with ⟨_, hneg⟩ | ⟨i, o, ho, _, _, hidx⟩
      · rw [hneg] at CI HT2
        clear hneg
        have HF : Hid (topF E deals = none) := Lib.hid (by rw [HT2.out]; rfl)
        go_wp2_with fail
        refine (unhide CI).mono ?_
        rintro e w4 ⟨rfl, hb4⟩
        have hbw4 := hbw.trans (hb4.mono (by subst hge'; exact hbw.size))
        go_wp2
        go_ret2
        exact ⟨_, 0, _, [], rfl, World.ownsRow_nil _ _ _ _, .inr ⟨HF.out, rfl, rfl⟩, by rw [hge']; exact hbw4⟩
      · rw [hidx, Int.zero_add] at CI HT2
        have hil : i < p' + 1 := by rw [← HLL.out]; exact (List.getElem?_eq_some_iff.1 ho).1
        have HO := Lib.hid ho
        have HF : Hid (topF E deals = topGo E p' (left.eraseIdx i) (acc ++ [o])) := Lib.hid (by
          rw [HT2.out, if_neg (by omega), Int.toNat_natCast, List.getD_eq_getElem?_getD, HO.out]; rfl)
        clear HT2 hidx ho
        go_wp2_with fail
        refine (unhide CI).mono ?_
        rintro e w4 ⟨rfl, hb4⟩
        have hzz : ge ≤ wr.heap.size := by subst hge'; exact hbw.size
        have hbw4 := hbw.trans (hb4.mono hzz)
        have hgl4 := hgl.below hb4 hgl.lt
        have hge4 := hge.below hb4 hge.lt
        have hol4 := own_below hol hb4 (Nat.le_refl _)
        have ho74 := own_below ho7 hb4 (Nat.le_refl _)
        obtain ⟨b, off, o', he, hb, ho', c0⟩ := (rd_own hol4).int (k := i) (by omega)
        cases he
        obtain rfl : o = o' := by have := HO.out; rw [ho'] at this; exact (Option.some.inj this).symm
        rw [Nat.zero_add] at c0
        have e6 := hgl4.cellS (i := 0) (v := .slice (some ⟨ga, 0, none⟩) (p' + 1) c1) rfl
        have l4 := hgl4.lt
        clear hb4 hgl hge hol ho7 CI ho' hbw
        go_wp2_with (at_builtin; (refine wpList_app rfl (.tmp 21) (.tmp 26) _ rfl (gl + 1) slt_ints (n := q) (xs := cellsI acc) (m := 1) (news := cellsI [o]) rfl (own_alloc ho74 _) rfl (rd_new' _ _ (cellsI [o]) (by simp) rfl) (oneI _) (by omega) (by simp; omega) ?_; intro v5 w5 hown5 hg5 hb5 hat5 hne5; obtain ⟨A5, c5, rfl⟩ := own_slice hown5; have hgl5 := (hgl4.alloc (.cells (cellsI [o]).toArray 3)).below hb5 (Nat.lt_succ_self _); have e6 := hgl5.cellS (i := 0) (v := .slice (some ⟨ga, 0, none⟩) (p' + 1) c1) rfl))
        have e1 : cellsI acc ++ cellsI [o] = cellsI (acc ++ [o]) := by simp [cellsI]
        rw [e1] at hown5
        have hz4 : gl + 1 ≤ (w4.alloc (.cells (cellsI [o]).toArray 3)).heap.size := by simp; omega
        have hge5 := (hge4.alloc (.cells (cellsI [o]).toArray 3)).below hb5 (by omega)
        have hol5 := own_under (own_alloc hol4 (.cells (cellsI [o]).toArray 3)) hb5 hg0
        have hbw5 := (hbw4.alloc (by omega) (.cells (cellsI [o]).toArray 3)).trans (hb5.mono (by omega))
        have hz5 : ge ≤ w5.heap.size := by have := hgl5.lt; omega
        have CD := hide (idelete_own hol5 hz5 (i := i) hil)
        rw [Nat.add_sub_cancel, show ((i + 1 : Nat) : Int) = (i : Int) + 1 from rfl] at CD
        clear e1 hb5 hg5 hat5 hne5 hgl4 hge4 hol4 ho74 hbw4 l4 c0
        refine (unhide CD).mono ?_
        rintro e w6 ⟨rfl, hol6, hg6, hb6⟩
        have hgl6 := hgl5.other hol5 (by decide) hg6
        have hge6 := hge5.other hol5 (by decide) hg6
        have hown6 := own_past hown5 hg6 (by omega)
        have hbw6 := hbw5.trans hb6
        have z6 := hgl6.frozen 0
        have e6' := hgl6.cellS (i := 0) (v := .slice (some ⟨ga, 0, none⟩) (p' + 1) c1) rfl
        have hgl7 := hgl6.put 0 (.slice (some ⟨ga, 0, none⟩) p' c1)
        have hne : gl ≠ ge := by omega
        have hge7 := hge6.far (p := ⟨gl, 0, none⟩) (Ne.symm hne) (.slice (some ⟨ga, 0, none⟩) p' c1)
        clear CD hg6 hb6 hgl5 hge5 hol5 hown5 hbw5 hgl6 hge6
        go_wp2
        go_roundw
        case rel => exact ⟨left.eraseIdx i, acc ++ [o], p', q + 1, own_far2 hown6 (by simp) _, hgl7, hge7, own_apart hol6 (by simp; omega) _, by omega, HF, hbw6.setCell (p := ⟨gl, 0, none⟩) (by simp; omega) _⟩
        case measure => simp [lenV]; omega
end Go.Proofs.YtaaahfbcpgdoiaaGreatDoor


namespace Go.Proofs.YtaaahfbcpgdoiaaGreatDoor
open Go.RowKit Go.Shelf

/-! ### Order. -/
def orderE (E : List (Int × Int)) : Int := if checkG E ≠ 0 then checkG E else match topF E (namedF E) with | some _ => 0 | none => 8
def orderL (E : List (Int × Int)) : List Int := if checkG E ≠ 0 then [] else (topF E (namedF E)).getD []
theorem ends2_len (E : List (Int × Int)) : (ends2 E).length = E.length * 2 := by
  induction E with
  | nil => rfl
  | cons e t ih =>
    have : ends2 (e :: t) = [e.1, e.2] ++ ends2 t := rfl
    rw [this, List.length_append, ih]; simp; omega
theorem compL_le (l : List Int) : (compL l).length ≤ l.length := by
  have h : ∀ (t : List Int) (p : Int), (compGo p t).length ≤ t.length := by
    intro t
    induction t with
    | nil => intro p; exact Nat.le_refl _
    | cons y t ih => intro p; unfold compGo; split <;> simp <;> have := ih y <;> omega
  cases l with
  | nil => exact Nat.le_refl _
  | cons x t => simp only [compL, List.length_cons]; have := h t x; omega
theorem namedF_len (E : List (Int × Int)) : (namedF E).length ≤ E.length * 2 := by
  have := compL_le (sortI (ends2 E))
  rw [sortI_len, ends2_len] at this
  exact this
/-! ### Index, Contains at edges. -/
/-! ### around. -/
def tryGo (g : Int → Option (List Int)) : Nat → Int → Option (List Int)
  | 0, _ => none
  | k + 1, d => match g d with
    | some L => some L
    | none => tryGo g k (d + 1)
def nextB (E : List (Int × Int)) (way : List Int) (d : Int) : Bool := decide ((way.getLastD 0, d) ∈ E) && !decide (d ∈ way)
def roundGo (E : List (Int × Int)) : Nat → List Int → Option (List Int)
  | 0, way => if (way.getLastD 0, way.headD 0) ∈ E then some way else none
  | f + 1, way => tryGo (fun d => if nextB E way d then roundGo E f (way ++ [d]) else none) 6 1
def WayPost (R : Option (List Int)) (w : World) (e : Ending) (w' : World) : Prop :=
  Below w.heap.size w w' ∧ ((R = none ∧ e = .returned (.slice none 0 0)) ∨ ∃ L a n c, R = some L ∧ e = .returned (.slice (some a) n c) ∧ Rd w' w'.heap.size 1 (some a) n (cellsI L))
theorem lastD_at {l : List Int} {n : Nat} {x : Int} (h : l[n]? = some x) (hl : l.length = n + 1) : l.getLastD 0 = x := by
  have h1 : l.getLast? = some x := by rw [List.getLast?_eq_getElem?, hl]; exact h
  rw [List.getLastD_eq_getLast?, h1]; rfl
theorem headD_at {l : List Int} {x : Int} (h : l[0]? = some x) : l.headD 0 = x := by
  cases l with
  | nil => simp at h
  | cons a t => simpa using h
theorem tryGo_step (g : Int → Option (List Int)) (k : Nat) (d : Int) : tryGo g (k + 1) d = match g d with | some L => some L | none => tryGo g k (d + 1) := rfl

end Go.Proofs.YtaaahfbcpgdoiaaGreatDoor
