
/-
  CONTRACTS of errors.As at nil, of (*run.desk).answer where the line has no fault, of strings.TrimSuffix at a line's end, of the Builder's writing and reading.
  A LAW of a range over a function whose iterator writes a variable of its own (its box Bs) and is never stopped; strings.Lines is such a one.
  CONTRACTS of strings.IndexByte, strings.Lines: an iterator over a text's lines.
-/
import Derived.Test.YtaaahfbcpgdoiaaGreatDoorQ33
import Derived.Shelf.Strings.BuilderK
import Derived.Shelf.Strings.Prefix
import Derived.Shelf.Small.Strs
import Derived.RangeFuncNested
import Derived.RangeFuncBound
import Derived.RangeFuncCalls
import Derived.RangeFuncLeaves
import Derived.RangeFuncBox
import Derived.OwnWalkIn
import Derived.TacticsInMore
import Derived.LoopNIn
import Derived.LoopIn
import Derived.RegionIn
import Derived.Sort.QuietIn

namespace Go.Proofs.YtaaahfbcpgdoiaaGreatDoor
open Go.RowKit Go.Shelf

theorem as_none (t : Value) (w : World) :
    Calls Tryz.prog 16 #[.nilIface, t] w fun e w' => e = .returned (.bool false) ∧ w' = w := by
  go_enter Tryz.func16, Tryz.ntmps16
  go_wp2
  go_ret
  exact ⟨rfl, rfl⟩
/-- What an answer leaves. -/
def AnsP (w : World) (lo gd : Nat) (h : List HOp) (out : List UInt8) (e : Ending) (w' : World) : Prop :=
  e = .returned (.string ⟨out.toArray⟩) ∧ ∃ A n c, Desk w' lo gd A n c h ∧ Chg (fun k => k = gd) w w'
set_option maxHeartbeats 1000000 in
theorem answer_nil (s : Value) (lo gd : Nat) (h : List HOp) (out : List UInt8) (w : World)
    (HL : Calls Tryz.prog 15 #[.pointer (some ⟨gd, 0, none⟩), s] w (LineP w lo gd h out .nilIface)) :
    Calls Tryz.prog 9 #[.pointer (some ⟨gd, 0, none⟩), s] w (AnsP w lo gd h out) := by
  have CL := hide HL
  have CA := hide (fun t w1 => as_none t w1)
  clear HL
  go_enter Tryz.func9, Tryz.ntmps9
  go_wp2_with fail
  refine (unhide CL).mono ?_
  rintro e w1 ⟨rfl, A, n, c, D, hc⟩
  have HD := hide (And.intro D hc)
  clear CL D hc
  go_wp2_with fail
  refine (unhide CA _ _).mono ?_
  rintro e w2 ⟨rfl, rfl⟩
  go_wp2_with fail
  refine (unhide CA _ _).mono ?_
  rintro e w2 ⟨rfl, rfl⟩
  go_wp2
  go_ret
  obtain ⟨D, hc⟩ := unhide HD
  exact ⟨rfl, A, n, c, D.below (((Below.refl _ _).alloc (Nat.le_refl _) _).alloc (by simp) _), (hc.alloc _).alloc _⟩
theorem trim_line (l : List UInt8) (w : World) (hl : l.length ≤ 1000000000) : Calls Tryz.prog 10 #[.string ⟨l.toArray⟩, .string ⟨#[10]⟩] w fun e w' => e = .returned (.string ⟨(trimN l).toArray⟩) ∧ w' = w := by
  have h := Any.strings_TrimSuffix Tryz.lTrim ⟨l.toArray⟩ ⟨#[10]⟩ w (by show l.length ≤ _; omega)
  have e : Go.Lib.trimSuffix l [10] = trimN l := by
    unfold Go.Lib.trimSuffix Go.Lib.hasSuffix trimN
    rcases List.eq_nil_or_concat l with rfl | ⟨u, x, rfl⟩
    · rfl
    · rw [List.concat_eq_append]
      by_cases hx : x = 10
      · subst hx
        rw [if_pos (by simp), if_pos (by simp)]
        simp
      · rw [if_neg (by
          intro hs
          have := List.isSuffixOf_iff_suffix.1 hs
          obtain ⟨t, ht⟩ := this
          have := List.append_inj' ht rfl
          simp at this
          exact hx this.2.symm), if_neg (by simp; exact hx)]
  rw [← e]
  exact h
/-! ### The builder. -/
theorem bwL : Lays.n166 Tryz.prog Tryz.lJoin_ren := { Tryz.lJoin with }
theorem bsL : Lays.n169 Tryz.prog Tryz.lJoin_ren := { Tryz.lJoin with }
abbrev Bld (w : World) (B b : Nat) (l : List UInt8) : Prop := Lib.IsBuilderF 35 5 B b (Lib.byteCells l) w
theorem strCells_byte (l : List UInt8) : Lib.strCells ⟨l.toArray⟩ = Lib.byteCells l := by
  unfold Lib.strCells Lib.byteCells
  simp
theorem byteCells_app (a b : List UInt8) : Lib.byteCells (a ++ b) = Lib.byteCells a ++ Lib.byteCells b := by
  unfold Lib.byteCells; simp
theorem bwrite_any (B b : Nat) (l s : List UInt8) (w : World) (h : Bld w B b l) (hl : l.length + s.length ≤ 1000000000) (hB : B ≤ w.heap.size) :
    Calls Tryz.prog 8 #[.pointer (some ⟨b, 0, none⟩), .string ⟨s.toArray⟩] w fun e w' => e = .returned (.tuple #[.int .i64 s.length, .nilIface]) ∧ Bld w' B b (l ++ s) ∧ Below B w w' ∧ Lib.OthersKept 5 (some b) w w' := by
  have hl1 : (Lib.byteCells l).length = l.length := by unfold Lib.byteCells; simp
  refine (Any.Builder_WriteString_k bwL bxJoin B b (Lib.byteCells l) ⟨s.toArray⟩ w h (by rw [hl1]; show l.length + s.length ≤ _; omega) hB).mono fun e w' ⟨h1, h2, h3, h4⟩ => ⟨h1, ?_, h3, h4⟩
  rw [strCells_byte, ← byteCells_app] at h2
  exact .inr h2
theorem bstring_any (B b : Nat) (l : List UInt8) (w : World) (h : Bld w B b l) (hB : B ≤ w.heap.size) :
    Calls Tryz.prog 11 #[.pointer (some ⟨b, 0, none⟩)] w fun e w' => e = .returned (.string ⟨l.toArray⟩) ∧ Below B w w' :=
  (Any.Builder_String_any_k bsL bxJoin B b l w h hB).mono fun _ _ ⟨h1, _, h3, _⟩ => ⟨h1, h3⟩
end Go.Proofs.YtaaahfbcpgdoiaaGreatDoor


namespace Go.Proofs.YtaaahfbcpgdoiaaGreatDoor
open Go.RowKit Go.Shelf

attribute [local go_sem] Oper.semAt_some
section
variable {α : Type} {F : Fence} {n : Nat} {P : Program} {w : World}
/-- An iterator that hands over all of zs, one by one, and writes its box Bs between. -/
def SeqSet (F : Fence) (n : Nat) (P : Program) (gf : Nat) (lb : Array Value) (encs : α → Array Value) (Bs : Nat) (zs : List α) (w : World) : Prop :=
  ∀ (l : Nat) (J : List α → World → Prop) (W : World), Below w.heap.size w W → AbidesFrom W.heap.size J → (∀ s X v, J s X → J s (X.setCell ⟨Bs, 0, none⟩ v)) →
    (∀ pre x r W1, zs = pre ++ x :: r → J pre W1 → YieldAt F (n - 1) P l (encs x) W1 fun e W' => e = .returned (.bool true) ∧ J (pre ++ [x]) W' ∧ W'.heap[Bs]? = W1.heap[Bs]?) →
    J [] W → CallsIn F n P gf (#[.func (.yield l) #[] #[]] ++ lb) W fun e W' => (∃ v, e = .returned v) ∧ J zs W'
theorem range_set {g : Operand} {ps : Array Tmp} {assign body : Code} {Q : Exit → Act → World → Prop} {a : Act}
    (hro : F.round = none) (h1 : 1 ≤ n) {gf : Nat} {lb : Array Value} (hg : a.eval g = .func (.func gf) #[] lb) (hFg : F.fn gf) (eg : ∀ args w, (callFunc gf args).run P w = .ok (.enter gf args) w)
    {encs : α → Array Value} {Bs : Nat} {zs : List α} (hBs : Bs < w.heap.size) (hseq : SeqSet F (n - 1) P gf lb encs Bs zs w) (hps : ∀ x, (encs x).size = ps.size)
    (I : List α → World → Prop) (hI : OwnFrom w.heap.size I) (hIs : ∀ s X v, I s X → I s (X.setCell ⟨Bs, 0, none⟩ v)) (h0 : I [] w) (a1 : α → Act)
    (hassign : ∀ (l : Nat) (x : α) (W : World) (K : Act → World → Prop), K (a1 x) W → assign.wpIn (F.inRound l) (n - 1 - 1) P (Exit.then K (fun _ _ _ => False)) { tmps := (ps.zip (encs x)).foldl (fun t (p, v) => t.setIfInBounds p v) a.tmps, defers := [] } W)
    (hbody : ∀ (l : Nat) (pre : List α) (x : α) (r : List α) (W : World), zs = pre ++ x :: r → w.heap.size ≤ W.heap.size → I pre W → body.wpIn (F.inRound l) (n - 1 - 1) P (fun e _ W' => e = .normal ∧ KeepsFrom w.heap.size W W' ∧ W'.heap[Bs]? = W.heap[Bs]? ∧ I (pre ++ [x]) W') (a1 x) W)
    (hdone : ∀ (D : Nat) (W : World), w.heap.size ≤ D → I zs W → W.heap[D]? = some (.deferred (some [])) → Q .normal { a with defers := { target := .collected D, args := #[] } :: a.defers } W) :
    (Code.rangeFunc g ps assign body).wpIn F n P Q a w := by
  refine wpIn_rangeFunc fun fn hfn => ?_
  rw [hro]
  obtain ⟨lp, hlp⟩ : ∃ lp : LoopState → Loop, lp = fun st => { state := st, pending := none, fn, tmps := a.tmps, params := ps, assign, body, defers := w.heap.size } := ⟨_, rfl⟩
  obtain ⟨V, hV⟩ : ∃ V, (w.alloc (.deferred (some []))).alloc (.loop (lp .ready)) = V := ⟨_, rfl⟩
  have vl : V.heap[w.heap.size + 1]? = some (.loop (lp .ready)) := by
    have h := World.alloc_heap_new (w.alloc (.deferred (some []))) (.loop (lp .ready))
    rw [World.size_alloc] at h
    rw [← hV]; exact h
  have vd : V.heap[w.heap.size]? = some (.deferred (some [])) := by
    rw [← hV]; exact (Below.heap_alloc _ _ _ (by simp)).trans (World.alloc_heap_new w _)
  have vb : Below w.heap.size w V := by
    rw [← hV]; exact ((Below.refl _ w).alloc (Nat.le_refl _) _).alloc (by simp) _
  have vi : I [] V := by rw [← hV]; exact hI.alloc _ (hI.alloc _ h0)
  refine ⟨w.heap.size + 1, [{ target := .collected w.heap.size, args := #[] }], V, { target := .fn (.func gf) lb, args := #[.func (.yield (w.heap.size + 1)) #[] #[]] }, V, gf,
    #[.func (.yield (w.heap.size + 1)) #[] #[]] ++ lb, V, ?_, ?_, ?_, ?_, fun _ => h1, ?_⟩
  · rw [← hV, hlp]; exact run_enterLoop_outer _ _ _ _ _
  · simp only [resolve, hg]
    simp [go_sem]
  · intro f' hf'; simp [Target.leads] at hf'; subst hf'; exact hFg
  · simp [invoke, go_sem, eg]
  have big : ∀ {A B : World} {row : Option Nat}, (∀ r, row = some r → V.heap.size ≤ r ∧ ∃ o : Obj, A.heap[r]? = some o ∧ o.isWalk = true) → ∀ r, row = some r → w.heap.size ≤ r ∧ ∃ o : Obj, A.heap[r]? = some o ∧ o.isCells = false := fun hr r e => by
    obtain ⟨hB, o, ho, hw⟩ := hr r e
    exact ⟨Nat.le_trans vb.size hB, o, ho, Obj.not_cells_of_walk hw⟩
  have other : ∀ (X : World) (v : Value) (k : Nat), w.heap.size ≤ k → (X.setCell ⟨Bs, 0, none⟩ v).heap[k]? = X.heap[k]? := fun X v k hk => Below.heap_setCell X ⟨Bs, 0, none⟩ v k (show k ≠ Bs by omega)
  refine (hseq (w.heap.size + 1) (fun pre W => I pre W ∧ W.heap[w.heap.size + 1]? = some (.loop (lp .ready)) ∧ W.heap[w.heap.size]? = some (.deferred (some []))) V vb
    (fun s A B row hs hgr hr => ⟨hI s A B row hs.1 hgr (big (B := B) hr), (grownBy_keeps hgr (fun r e => (hr r e).2) hs.2.1 rfl).trans hs.2.1, (grownBy_keeps hgr (fun r e => (hr r e).2) hs.2.2 rfl).trans hs.2.2⟩)
    (fun s X v hs => ⟨hIs s X v hs.1, (other X v _ (by omega)).trans hs.2.1, (other X v _ (Nat.le_refl _)).trans hs.2.2⟩) ?_ ⟨vi, vl, vd⟩).mono ?_
  · rintro pre x r W hz ⟨hi, hl, hd⟩
    have hlt : w.heap.size + 1 < W.heap.size := (Array.getElem?_eq_some_iff.1 hl).1
    have hy := run_yield (P := P) (args := encs x) hl (by rw [hlp]; exact hps x)
    rw [hlp] at hy
    refine ⟨fn, _, assign, body, hy, roundIn_of_wpIn hfn (hassign _ x W _ ⟨_, run_beginRound hl (by rw [hlp]), ?_⟩)⟩
    clear hy
    have b1 : (W.putObj (w.heap.size + 1) (.loop { lp .ready with state := .busy })).heap[w.heap.size + 1]? = some (.loop { lp .ready with state := .busy }) := World.putObj_heap_same hlt
    have b2 : (W.putObj (w.heap.size + 1) (.loop { lp .ready with state := .busy })).heap[w.heap.size]? = some (.deferred (some [])) := (World.putObj_heap_other (by omega)).trans hd
    have b3 : (W.putObj (w.heap.size + 1) (.loop { lp .ready with state := .busy })).heap[Bs]? = W.heap[Bs]? := World.putObj_heap_other (by omega)
    have b4 : w.heap.size ≤ (W.putObj (w.heap.size + 1) (.loop { lp .ready with state := .busy })).heap.size := by
      have := (Array.getElem?_eq_some_iff.1 b1).1
      omega
    refine wpIn_mono (hbody _ pre x r _ hz b4 (hI.putObj _ hi (by omega) hl rfl)) ?_
    rintro e a3 W3 ⟨rfl, hk3, hB3, hi3⟩
    have c1 := hk3.same _ _ (by omega) b1 rfl
    have c2 := hk3.same _ _ (Nat.le_refl _) b2 rfl
    have hr := run_endRound (P := P) none c1
    rw [hlp] at hr c1
    refine ⟨_, _, hr, rfl, ⟨hI.putObj _ hi3 (by omega) c1 rfl, ?_, (World.putObj_heap_other (by omega)).trans c2⟩, (World.putObj_heap_other (by omega)).trans (hB3.trans b3)⟩
    rw [hlp]
    exact World.putObj_heap_same (Array.getElem?_eq_some_iff.1 c1).1
  · rintro e W2 ⟨⟨v, rfl⟩, hi, hl, hd⟩
    have hr := run_endLoop (P := P) hl (by rw [hlp]; simp)
    rw [hlp] at hr
    exact ⟨none, _, hr, hdone _ _ (Nat.le_refl _) (hI.putObj _ hi (by omega) hl rfl) ((World.putObj_heap_other (by omega)).trans hd)⟩
end
end Go.Proofs.YtaaahfbcpgdoiaaGreatDoor


namespace Go.Proofs.YtaaahfbcpgdoiaaGreatDoor
open Go.RowKit Go.Shelf

attribute [local go_sem] Oper.semAt_some
theorem ixb_ge : ∀ (l : List UInt8) (c : UInt8), -1 ≤ Go.Lib.indexByte l c
  | [], _ => by unfold Go.Lib.indexByte; omega
  | b :: l, c => by
    have := ixb_ge l c
    unfold Go.Lib.indexByte
    split
    · omega
    · split
      · omega
      · omega
theorem ixb_no : ∀ {l : List UInt8} {c : UInt8}, c ∉ l → Go.Lib.indexByte l c = -1
  | [], _, _ => rfl
  | b :: l, c, h => by
    unfold Go.Lib.indexByte
    rw [if_neg (fun e => h (by rw [← beq_iff_eq.1 e]; exact List.mem_cons_self)), ixb_no (fun h2 => h (List.mem_cons_of_mem _ h2))]
    rfl
theorem ixb_at : ∀ {p v : List UInt8} {c : UInt8}, c ∉ p → Go.Lib.indexByte (p ++ c :: v) c = (p.length : Int)
  | [], v, c, _ => by
    show Go.Lib.indexByte (c :: v) c = 0
    unfold Go.Lib.indexByte
    rw [if_pos (by simp)]
  | b :: p, v, c, h => by
    show Go.Lib.indexByte (b :: (p ++ c :: v)) c = _
    unfold Go.Lib.indexByte
    rw [if_neg (fun e => h (by rw [← beq_iff_eq.1 e]; exact List.mem_cons_self)), ixb_at (fun h2 => h (List.mem_cons_of_mem _ h2))]
    have : ((p.length : Int) == -1) = false := beq_eq_false_iff_ne.2 (by omega)
    rw [this]
    simp only [Bool.false_eq_true, if_false, List.length_cons]
    omega
theorem cut_at : ∀ (u : List UInt8) (c : UInt8), c ∉ u ∨ ∃ p v, u = p ++ c :: v ∧ c ∉ p
  | [], c => .inl (by simp)
  | b :: u, c => by
    by_cases h : b = c
    · exact .inr ⟨[], u, by rw [h]; rfl, by simp⟩
    · rcases cut_at u c with h2 | ⟨p, v, rfl, h2⟩
      · exact .inl (by simp; exact ⟨fun e => h e.symm, h2⟩)
      · exact .inr ⟨b :: p, v, rfl, by simp; exact ⟨fun e => h e.symm, h2⟩⟩
theorem ixb_any (l : List UInt8) (w : World) : Calls Tryz.prog 13 #[.string ⟨l.toArray⟩, .int .u8 10] w fun e w' => e = .returned (.int .i64 (Go.Lib.indexByte l 10)) ∧ w' = w :=
  Any.strings_IndexByte Tryz.lIdxByte ⟨l.toArray⟩ 10 w
theorem lines_any (t : ByteArray) (w : World) : Calls Tryz.prog 7 #[.string t] w fun e w' => e = .returned (.func (.func 12) #[] #[.pointer (some ⟨w.heap.size, 0, none⟩)]) ∧ w' = w.alloc (.cells #[.string t] 9) := by
  go_enter Tryz.func7, Tryz.ntmps7
  go_wp2
  go_ret
  exact ⟨rfl, rfl⟩
def lenAt (w : World) (b : Nat) : Nat := match w.cell? ⟨b, 0, none⟩ with
  | some (.string s) => s.size
  | _ => 0
theorem lenAt_of {w : World} {b : Nat} {u : List UInt8} (h : Blk w b 9 [.string ⟨u.toArray⟩]) : lenAt w b = u.length := by
  unfold lenAt
  rw [h.cellS (i := 0) (v := .string ⟨u.toArray⟩) rfl]
  rfl
def encL (x : List UInt8) : Array Value := #[.string ⟨x.toArray⟩]

set_option maxRecDepth 100000 in
set_option maxHeartbeats 2000000 in
theorem lines_set (n : Nat) (hn : 1 ≤ n) (Bs : Nat) (t : List UInt8) (ht : t.length ≤ 1000000) (w : World) (hB : Blk w Bs 9 [.string ⟨t.toArray⟩]) :
    SeqSet Fence.wide n Tryz.prog 12 #[.pointer (some ⟨Bs, 0, none⟩)] encL Bs (linesL t) w := by
  intro l J W hbW hab hst hY h0
  have hBW := hB.below hbW hB.lt
  have hdr : ∀ s X, J s X → J s X.drew := fun s X h => hab s X X.drew none h ⟨rfl, rfl, rfl, Nat.le_refl _, fun _ _ _ => rfl⟩ (fun r e => by cases e)
  have HY := Lib.hid hY
  have HST := Lib.hid (And.intro hst hdr)
  clear hY hst hdr hab
  refine callsIn_of_wp Tryz.func12 rfl trivial ?_ rfl
  simp only [Tryz.ntmps12, List.size_toArray, List.length_cons, List.length_nil, Nat.reduceAdd, Nat.reduceSub, Array.replicate_succ, Array.replicate_zero, List.push_toArray, List.append_toArray, List.nil_append, List.cons_append]
  gi_wp2
  gi_loopw [3] (fun _ wr => ∃ pre u, linesL t = pre ++ linesL u ∧ u.length ≤ 1000000 ∧ Blk wr Bs 9 [.string ⟨u.toArray⟩] ∧ J pre wr) (fun _ wr => lenAt wr Bs)
  case atStart => exact ⟨[], t, rfl, ht, hBW, h0⟩
  case round =>
    obtain ⟨pre, u, hz, hu, hBr, hJ⟩ := hrel
    have HM := Lib.hid (lenAt_of hBr)
    have HBr := Lib.hid hBr
    have c0 := hBr.cellS (i := 0) (v := .string ⟨u.toArray⟩) rfl
    have f0 := hBr.frozen 0
    have HC := hide (ixb_any u)
    rcases cut_at u 10 with hno | ⟨p, v, rfl, hp⟩
    · by_cases h0 : u = []
      · subst h0
        have hz0 : linesL t = pre := by rw [hz]; exact List.append_nil _
        have hfin : J (linesL t) wr := by rw [hz0]; exact hJ
        clear hz hz0 hno
        gi_wp2
        go_end0
        exact ⟨⟨_, rfl⟩, hfin⟩
      · have hz1 : linesL t = pre ++ u :: [] := by rw [hz, lines_no hno h0]
        rw [ixb_no hno] at HC
        have hul : 0 < u.length := List.length_pos_iff.2 h0
        have hJ1 := HST.out.1 pre wr (.string ⟨#[]⟩) hJ
        obtain ⟨fn, tmps, assign, body, hy, hR⟩ := HY.out pre u [] _ hz1 hJ1
        have HR := hide hR
        have HB1 := Lib.hid (hBr.put 0 (.string ⟨#[]⟩))
        have HZ := Lib.hid hz1
        have hsz : (⟨u.toArray⟩ : ByteArray).size = u.length := rfl
        have hu0 : (0 : Int) < (u.length : Int) := by omega
        unfold encL at hy
        generalize (⟨u.toArray⟩ : ByteArray) = SB at *
        generalize hul2 : u.length = ul at *
        clear hno hz hz1 h0 hR
        gi_wp2_with (refine ⟨trivial, ?_⟩; gi_at_call 13; refine (callsIn_wide.2 (unhide HC _)).mono ?_)
        rintro e w1 ⟨rfl, rfl⟩
        gi_wp2
        refine (unhide HR).mono ?_
        rintro e W3 ⟨rfl, hJ3, hB3⟩
        have hBk3 : Blk W3 Bs 9 [.string ⟨([] : List UInt8).toArray⟩] := hB3.trans HB1.out
        have HBK := Lib.hid hBk3
        clear HR hB3 hBk3 HB1 c0 f0
        gi_wp2
        go_roundw
        case rel => exact ⟨pre ++ [u], [], by rw [HZ.out, lines_nil, List.append_nil], by simp, HBK.out, hJ3⟩
        case measure => rw [lenAt_of HBK.out, HM.out]; exact hul
    · have hz1 : linesL t = pre ++ (p ++ [10]) :: linesL v := by rw [hz, lines_at hp]
      rw [ixb_at hp] at HC
      have hJ1 := HST.out.1 pre wr.drew (.string ⟨v.toArray⟩) (HST.out.2 pre wr hJ)
      obtain ⟨fn, tmps, assign, body, hy, hR⟩ := HY.out pre (p ++ [10]) (linesL v) _ hz1 hJ1
      have HR := hide hR
      have HB1 := Lib.hid (hBr.drew.put 0 (.string ⟨v.toArray⟩))
      have HZ := Lib.hid hz1
      have hsz : (⟨(p ++ 10 :: v).toArray⟩ : ByteArray).size = p.length + 1 + v.length := by
        show (p ++ 10 :: v).length = _
        simp; omega
      have hx1 : (⟨(p ++ 10 :: v).toArray⟩ : ByteArray).extract 0 (p.length + 1) = ⟨(p ++ [10]).toArray⟩ := by
        apply ByteArray.ext
        rw [ByteArray.data_extract, show p ++ 10 :: v = (p ++ [10]) ++ v by simp]
        simp only [List.extract_toArray, List.extract_eq_take_drop, List.drop_zero, Nat.sub_zero]
        rw [List.take_left' (by simp)]
      have hx2 : (⟨(p ++ 10 :: v).toArray⟩ : ByteArray).extract (p.length + 1) (p.length + 1 + v.length) = ⟨v.toArray⟩ := by
        apply ByteArray.ext
        rw [ByteArray.data_extract]
        simp
      rw [show (p ++ 10 :: v).length = p.length + 1 + v.length by simp; omega] at hu HM
      have hw : IntKind.i64.wrap ((p.length : Int) + 1) = ((p.length + 1 : Nat) : Int) := by
        rw [show (p.length : Int) + 1 = ((p.length + 1 : Nat) : Int) by omega]; exact IntWalk.i64_in _ (by omega)
      have hu0 : (0 : Int) < ((p.length + 1 + v.length : Nat) : Int) := by omega
      have hp0 : (0 : Int) ≤ (p.length : Int) := by omega
      have hp1 : (0 : Int) ≤ ((p.length + 1 : Nat) : Int) := by omega
      have hp2 : ((p.length + 1 : Nat) : Int) ≤ ((p.length + 1 + v.length : Nat) : Int) := by omega
      have hp3 : p.length + 1 ≤ p.length + 1 + v.length := by omega
      have hvl : v.length ≤ 1000000 := by omega
      have hlt : v.length < p.length + 1 + v.length := by omega
      have c0d : wr.drew.cell? ⟨Bs, 0, none⟩ = some (.string ⟨(p ++ 10 :: v).toArray⟩) := c0
      have f0d : wr.drew.frozen? ⟨Bs, 0, none⟩ = false := f0
      unfold encL at hy
      generalize hVB : (⟨v.toArray⟩ : ByteArray) = VB at *
      generalize (⟨(p ++ 10 :: v).toArray⟩ : ByteArray) = SB at *
      generalize hLB : (⟨(p ++ [10]).toArray⟩ : ByteArray) = LB at *
      have HVB := Lib.hid hVB
      have HLV : Hid (v.length = v.length) := Lib.hid rfl
      obtain ⟨pl, hpl⟩ : ∃ pl, p.length = pl := ⟨_, rfl⟩
      obtain ⟨vl, hvl2⟩ : ∃ vl, v.length = vl := ⟨_, rfl⟩
      rw [hpl, hvl2] at hsz hx2 hu HM hu0 hp2 hp3 hlt
      rw [hpl] at hx1 hw hp0 hp1 HC
      rw [hvl2] at hvl
      have HVL := Lib.hid hvl2
      clear hz hz1 hR hVB hLB hpl hvl2 hBr
      gi_wp2_with (refine ⟨trivial, ?_⟩; gi_at_call 13; refine (callsIn_wide.2 (unhide HC _)).mono ?_; rintro e w1 ⟨rfl, rfl⟩)
      have HZ2 := Lib.hid hy
      clear hy
      gi_region
      show Exit.then _ _ _ _ (w1.drew.setCell ⟨Bs, 0, none⟩ (.string VB))
      have hy := HZ2.out
      generalize hWW : w1.drew.setCell ⟨Bs, 0, none⟩ (.string VB) = WW at *
      clear hWW c0 c0d f0 f0d
      gi_wp2
      refine (unhide HR).mono ?_
      rintro e W3 ⟨rfl, hJ3, hB3⟩
      have hBk3 : Blk W3 Bs 9 [.string ⟨v.toArray⟩] := by
        have h := hB3.trans HB1.out
        rw [← HVB.out] at h
        exact h
      have HBK := Lib.hid hBk3
      clear HR hB3 hBk3 HB1
      gi_wp2
      go_roundw
      case rel => exact ⟨pre ++ [p ++ [10]], v, by rw [HZ.out, List.append_assoc]; rfl, by rw [HVL.out]; exact hvl, HBK.out, hJ3⟩
      case measure => rw [lenAt_of HBK.out, HM.out, HVL.out]; exact hlt
end Go.Proofs.YtaaahfbcpgdoiaaGreatDoor
