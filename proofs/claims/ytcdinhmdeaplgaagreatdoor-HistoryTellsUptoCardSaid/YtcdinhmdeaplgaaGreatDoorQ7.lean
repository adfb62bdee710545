
/-
  CONTRACTS of strings.Split at a blank, history.Parse: any text as a history.
  THE LISTED VARIABLES errors.errorType, unicode/utf8.first, unicode/utf8.acceptRanges: what a row's condition gives a walk; worlds that meet it; that internal/bytealg.MaxLen holds a number, by the world's shape.
-/
import Derived.Test.YtcdinhmdeaplgaaGreatDoorRead
import Derived.Test.YtcdinhmdeaplgaaGreatDoorQ6
import Derived.Lib.SplitLaws
import Derived.Test.YtcdinhmdeaplgaaGreatDoorQ2
import Derived.Lib.LaidIn
import Derived.HandedShaped
import Derived.Lay

namespace Go.Proofs.YtcdinhmdeaplgaaGreatDoor
open Go.RowKit Go.Shelf

/-- The variable internal/bytealg.MaxLen holds some number. -/
def Mx (w : World) : Prop := ∃ m, w.cell? ⟨1, 0, none⟩ = some (.int .i64 m)
theorem Mx.below {w w' : World} {B : Nat} (h : Mx w) (hb : Below B w w') (hB : 1 < B) : Mx w' := by
  obtain ⟨m, h⟩ := h
  exact ⟨m, (hb.cell (p := ⟨1, 0, none⟩) hB).trans h⟩
theorem Mx.pos {w : World} (h : Mx w) : 1 < w.heap.size := by
  obtain ⟨m, h⟩ := h
  rcases Nat.lt_or_ge 1 w.heap.size with h0 | h1
  · exact h0
  · simp [World.cell?, Array.getElem?_eq_none h1] at h
theorem splitB_cut (s : List UInt8) (c : UInt8) : Go.Lib.splitB ⟨#[c]⟩ 0 (Go.Lib.countB ⟨s.toArray⟩ ⟨#[c]⟩) ⟨s.toArray⟩ = (cutL c s).map fun x => ⟨x.toArray⟩ := by
  have h := Go.Lib.splitB_data ⟨#[c]⟩ 0 (Go.Lib.countB ⟨s.toArray⟩ ⟨#[c]⟩) ⟨s.toArray⟩
  have h2 : Go.Lib.splitK [c] 0 (Go.Lib.count s [c]) s = cutL c s := split_cut c s
  have e : Go.Lib.splitK (ByteArray.mk #[c]).data.toList 0 (Go.Lib.countB ⟨s.toArray⟩ ⟨#[c]⟩) (ByteArray.mk s.toArray).data.toList = cutL c s := h2
  rw [e] at h
  rw [← h, List.map_map]
  conv => lhs; rw [← List.map_id (Go.Lib.splitB _ _ _ _)]
  exact List.map_congr_left fun x _ => rfl
theorem split_any (s : List UInt8) (c : UInt8) (w : World) (hm : Mx w) (hs : s.length < 4294967281) :
    Calls Tryz.prog 34 #[.string ⟨s.toArray⟩, .string ⟨#[c]⟩] w fun e w' => ∃ n, e = .returned (.slice (some ⟨w.heap.size, 0, none⟩) n n) ∧ n = (cutL c s).length ∧ w' = w.alloc (.cells (cellsS (cutL c s)).toArray 9) := by
  obtain ⟨m, hm⟩ := hm
  have h := Any.strings_Split { Tryz.lSplit with } (by kernel_rfl) ⟨s.toArray⟩ ⟨#[c]⟩ m w (by simpa [ByteArray.size] using hs) hm (by show 1 ≤ 1; omega)
  refine h.mono fun e w' ⟨h1, h2⟩ => ⟨_, h1, ?_, ?_⟩
  · have := Go.Lib.splitB_all ⟨#[c]⟩ (by show 1 ≤ 1; omega) 0 _ ⟨s.toArray⟩ rfl
    rw [← this, splitB_cut]; simp
  · rw [h2, splitB_cut, List.map_map]
    rfl
theorem Rd.str {w : World} {B n : Nat} {A : Option Addr} {l : List (List UInt8)} (h : Rd w B 1 A n (cellsS l)) {k : Nat} (hk : k < n) :
    ∃ b off x, A = some ⟨b, off, none⟩ ∧ b < B ∧ l[k]? = some x ∧ w.cell? ⟨b, off + k, none⟩ = some (.string ⟨x.toArray⟩) := by
  obtain ⟨b, off, e, hb, hc⟩ := h.2 (by omega)
  have hl := h.slen
  have ho : l[k]? = some (l[k]'(by omega)) := List.getElem?_eq_getElem (by omega)
  exact ⟨b, off, _, e, hb, ho, hc _ _ (by rw [cellsS, List.getElem?_map, ho]; rfl)⟩
theorem wordsF_step {ws r : List (List UInt8)} {x : List UInt8} (h : ws = x :: r) : wordsF ws = match wordF x with
    | none => none
    | some o => match wordsF r with
      | none => none
      | some h => some (o :: h) := by rw [h]; rfl
/-- Words that are read: those read, and what is left. -/
def leadF (ws : List (List UInt8)) (acc : List HOp) : Option (List HOp) := (wordsF ws).map (acc ++ ·)
theorem leadF_none {ws r : List (List UInt8)} {x : List UInt8} {acc : List HOp} (h : ws = x :: r) (hx : wordF x = none) : leadF ws acc = none := by
  unfold leadF
  rw [wordsF_step h, hx]; rfl
theorem leadF_some {ws r : List (List UInt8)} {x : List UInt8} {acc : List HOp} {o : HOp} (h : ws = x :: r) (hx : wordF x = some o) : leadF ws acc = leadF r (acc ++ [o]) := by
  unfold leadF
  rw [wordsF_step h, hx]
  cases wordsF r with
  | none => rfl
  | some y => simp
set_option maxRecDepth 100000 in
set_option maxHeartbeats 4000000 in
theorem parse_any (s : List UInt8) (w : World) (hm : Mx w) (hs : s.length ≤ 4000000000) :
    Calls Tryz.prog 19 #[.string ⟨s.toArray⟩] w fun e w' => ∃ v m, e = .returned (.tuple #[v, errV (parseE s)]) ∧ w'.ownsRow w.heap.size 50 3 v m (cellsH (parseL s)) ∧ Below w.heap.size w w' := by
  by_cases h0 : s = []
  · subst h0
    go_enter Tryz.func19, Tryz.ntmps19
    go_wp2
    go_ret2
    exact ⟨_, 0, rfl, World.ownsRow_nil _ _ _ _, Below.refl _ _⟩
  have hE : parseE s = match wordsF (cutL 32 s) with
    | none => 2
    | some h => (checkF h).2 := by unfold parseE; rw [if_neg h0]; rfl
  have hL : parseL s = match wordsF (cutL 32 s) with
    | none => []
    | some h => if (checkF h).2 = 0 then h else [] := by unfold parseL; rw [if_neg h0]; rfl
  have CS := hide (split_any s 32 w hm (by omega))
  have hne : (⟨s.toArray⟩ : ByteArray).toList.isEmpty = false := by
    rw [show (⟨s.toArray⟩ : ByteArray).toList = s by rw [ByteArray.toList_eq]]
    cases s with
    | nil => exact absurd rfl h0
    | cons _ _ => rfl
  have hlen := cutL_len 32 s
  have HN : Hid (leadF (cutL 32 s) [] = wordsF (cutL 32 s)) := Lib.hid (by
    unfold leadF
    cases wordsF (cutL 32 s) with
    | none => rfl
    | some y => simp)
  have HEL := Lib.hid (And.intro hE hL)
  clear hE hL hm
  generalize cutL 32 s = ws at *
  generalize parseE s = E at *
  generalize parseL s = L at *
  generalize (⟨s.toArray⟩ : ByteArray) = sb at *
  obtain ⟨nw, hnw⟩ : ∃ nw, ws.length = nw := ⟨_, rfl⟩
  rw [hnw] at hlen CS
  have hnw2 : nw ≤ 4000000001 := by omega
  have HNW := Lib.hid hnw
  have hrd : Rd (w.alloc (.cells (cellsS ws).toArray 9)) (w.heap.size + 1) 1 (some ⟨w.heap.size, 0, none⟩) nw (cellsS ws) := rd_new w 9 (cellsS ws) (by rw [cellsS_len]; omega)
  have hb0 : Below w.heap.size w (w.alloc (.cells (cellsS ws).toArray 9)) := (Below.refl _ _).alloc (Nat.le_refl _) _
  obtain ⟨w1, hw1⟩ : ∃ w1, w1 = w.alloc (.cells (cellsS ws).toArray 9) := ⟨_, rfl⟩
  have hz1 : w1.heap.size = w.heap.size + 1 := by rw [hw1]; simp
  rw [← hw1] at hrd hb0 CS
  clear h0 hs hlen hnw hw1
  go_enter Tryz.func19, Tryz.ntmps19
  go_wp2_with fail
  refine (unhide CS).mono ?_
  rintro e w2 ⟨n2, rfl, hn2, rfl⟩
  have hn3 := hn2.symm
  subst hn3
  clear CS hne
  go_wp2
  go_loopw [4, 15] (fun s4 s15 wr => ∃ (k : Nat) (acc : List HOp), k ≤ nw ∧ s15 = .int .i64 k ∧ wr.ownsRow (w.heap.size + 1) 50 3 s4 k (cellsH acc) ∧ Hid (wordsF ws = leadF (ws.drop k) acc) ∧ Below (w.heap.size + 1) w2 wr) (fun _ s15 _ => nw - (intOf s15).toNat)
  case atStart => exact ⟨0, [], Nat.zero_le _, rfl, World.ownsRow_nil _ _ _ _, Lib.hid HN.out.symm, Below.refl _ _⟩
  case round =>
    obtain ⟨k, acc, hk, rfl, hown, HE, hbw⟩ := hrel
    obtain ⟨A4, c4, rfl⟩ := own_slice hown
    have hbw0 : Below w.heap.size w wr := hb0.trans (hbw.mono (Nat.le_succ _))
    have hsz := hbw.size
    by_cases hlt : k < nw
    · obtain ⟨b, off, x, he, hb, hx, c0⟩ := (hrd.below hbw).str (k := k) hlt
      cases he
      rw [Nat.zero_add] at c0
      have CR := hide (fun W => read_any x W)
      unfold RdPost at CR
      have HD := Lib.hid (drop_at hx)
      have HW : Hid ((wordF x).isSome = (wordF x).isSome) := Lib.hid rfl
      clear hx
      cases hq : wordF x with
      | none =>
        rw [hq] at CR
        have HZ : Hid (E = 2 ∧ L = []) := Lib.hid (by
          obtain ⟨h1, h2⟩ := HEL.out
          rw [HE.out, leadF_none HD.out hq] at h1 h2
          exact ⟨h1, h2⟩)
        clear HE HEL HD hq
        go_wp2_with fail
        refine (unhide CR _).mono ?_
        rintro e w5 ⟨⟨o1, o2, o3⟩, rfl, _, hb5⟩
        have hbw5 := hbw0.trans (hb5.mono hbw0.size)
        unfold HOp.val
        rw [show (none : Option HOp).isSome = false from rfl]
        go_wp2
        go_ret2
        exact ⟨_, 0, by rw [HZ.out.1]; rfl, by rw [HZ.out.2]; exact World.ownsRow_nil _ _ _ _, hbw5.alloc hbw5.size _⟩
      | some o =>
        rw [hq] at CR
        have HE2 : Hid (wordsF ws = leadF (ws.drop (k + 1)) (acc ++ [o])) := Lib.hid (HE.out.trans (leadF_some HD.out hq))
        clear HE HD hq
        go_wp2_with fail
        refine (unhide CR _).mono ?_
        rintro e w5 ⟨o', rfl, ho', hb5⟩
        obtain rfl := ho' o rfl
        obtain ⟨o1, o2, o3⟩ := o
        have hbw5 := hbw.trans (hb5.mono (by omega))
        have ho5 := own_below hown hb5 (Nat.le_refl _)
        unfold HOp.val
        rw [show (some (⟨o1, o2, o3⟩ : HOp)).isSome = true from rfl]
        clear hown hb5 ho'
        have hz5 := hbw5.size
        go_wp2_with (at_builtin; refine wpList_app rfl (.tmp 27) (.tmp 29) _ rfl (w.heap.size + 1) slt_op (n := k) (xs := cellsH acc) (m := 1) (news := cellsH [⟨o1, o2, o3⟩]) rfl (own_alloc (own_alloc ho5 _) _) rfl (rd_new' _ _ (cellsH [⟨o1, o2, o3⟩]) (by simp) rfl) (oneH _) (by omega) (by simp; omega) ?_; intro v6 w6 hown6 hg6 hb6 hat6 hne6)
        have hbA := hbw5.alloc (by omega) (.cells #[.int .i64 o1, .int .i64 o2, .int .i64 o3] 50)
        have hb7 := (hbA.alloc (by have := hbA.size; omega) (.cells (cellsH [⟨o1, o2, o3⟩]).toArray 50)).trans hb6
        rw [← cellsH_append] at hown6
        go_roundw
        case rel => exact ⟨k + 1, acc ++ [⟨o1, o2, o3⟩], by omega, by go_num, hown6, HE2, hb7⟩
        case measure => simp [intOf]; omega
    · have HZ : Hid (wordsF ws = some acc) := Lib.hid (by rw [HE.out, drop_end (by rw [HNW.out]; omega)]; unfold leadF wordsF; simp)
      obtain rfl : k = nw := by omega
      have CRt := hide (right_h A4 k c4 acc wr (rd_own hown) (by omega))
      have HZ2 : Hid (E = (checkF acc).2 ∧ L = if (checkF acc).2 = 0 then acc else []) := Lib.hid (by
        obtain ⟨h1, h2⟩ := HEL.out
        rw [HZ.out] at h1 h2
        exact ⟨h1, h2⟩)
      have ho0 := own_mono hown (Nat.le_succ _)
      clear HZ HEL HN HE hown
      by_cases hc : (checkF acc).2 = 0
      · rw [hc, errV_zero] at CRt
        have HZ3 : Hid (E = 0 ∧ L = acc) := Lib.hid (by rw [hc] at HZ2; exact ⟨HZ2.out.1, by rw [HZ2.out.2, if_pos rfl]⟩)
        clear HZ2 hc
        go_wp2_with fail
        refine (unhide CRt).mono ?_
        rintro e w5 ⟨rfl, hb5⟩
        have ho5 := own_below ho0 hb5 (Nat.le_refl _)
        have hbw5 := hbw0.trans (hb5.mono hbw0.size)
        go_wp2
        go_ret2
        exact ⟨_, k, by rw [HZ3.out.1]; rfl, by rw [HZ3.out.2]; exact ho5, hbw5⟩
      · rw [ne_errV hc] at CRt
        have HZ3 : Hid (errV E = .iface 51 (.int .i64 (checkF acc).2) ∧ L = []) := Lib.hid ⟨by rw [HZ2.out.1, ne_errV hc], by rw [HZ2.out.2, if_neg hc]⟩
        clear HZ2 hc
        generalize (checkF acc).2 = ev at *
        go_wp2_with fail
        refine (unhide CRt).mono ?_
        rintro e w5 ⟨rfl, hb5⟩
        have hbw5 := hbw0.trans (hb5.mono hbw0.size)
        go_wp2
        go_ret2
        exact ⟨_, 0, by rw [HZ3.out.1]; rfl, by rw [HZ3.out.2]; exact World.ownsRow_nil _ _ _ _, hbw5⟩
end Go.Proofs.YtcdinhmdeaplgaaGreatDoor


namespace Go.Proofs.YtcdinhmdeaplgaaGreatDoor
open Go.ChangeShapes Go.WideShapes Go.ChangeAt Go.RowKit Go.Deep Go.Lib

abbrev dLaid3 : List (String × DataW Unit) := [("unicode/utf8.acceptRanges", Rows.laid_unicode_utf8_acceptRanges), ("errors.errorType", Rows.laid_errors_errorType), ("unicode/utf8.first", Rows.laid_unicode_utf8_first)]
abbrev dLaid2 : List (String × DataW Unit) := [("unicode/utf8.acceptRanges", Rows.laid_unicode_utf8_acceptRanges), ("unicode/utf8.first", Rows.laid_unicode_utf8_first)]
theorem et_of_laid3 {W : World} (h : laidMetH Tryz.prog dLaid3 W) : Et W := by
  have h' : laidMet Tryz.prog dLaid2 W ∧ handlesMet Tryz.prog dLaid W := h
  exact et_of_laid (show laidMet Tryz.prog [] W ∧ handlesMet Tryz.prog dLaid W from ⟨laidMet_nil _ _, h'.2⟩)
noncomputable def laidWorld3 (os : Os) : World :=
  let w0 := World.laidAll Tryz.prog os dLaid2
  { w0 with heap := w0.heap.modify 0 fun
      | .cells _ t frozen => .cells #[.iface 101 (.agg #[.pointer (some ⟨4, 26, none⟩)])] t frozen
      | o => o }
theorem laidWorld3_met (os : Os) (args : Array Value) : laidMetH Tryz.prog dLaid3 ((laidWorld3 os).forCall (fun _ _ => 0) ⟨#[], args, []⟩).memory :=
  laidMetH_of_parts (LaidIn.of_run (l := dLaid2) [3, 2] 8 (by kernel_rfl) (by kernel_rfl) (by kernel_rfl) (by kernel_rfl)).met (by kernel_rfl)
theorem mx_of_shaped {W : World} (h : W.ShapedOpen Tryz.prog) : Mx W := (Tryz.lSplit).s1_3 W h
section
variable {H : Type} {enc : TypeId × Value → H}
/-- The kit's two wraps ('.._and', '.._shaped') in one. -/
theorem returns_and_shaped {a : Assume} {C : Checked} {os : Os} {f : FuncId} {fn : Func} {s : ChangeSpec} {conds : List PathCond} {apart fresh handsOn again : Bool} {X : World → Array Value → Prop}
    (hX : ∀ (w w' : World) (args : Array Value), w.heap = w'.heap → X w args → X w' args)
    (own : ownKnob C.prog.godebug = none) (started : os.Started) (noInit : C.prog.inits.idxOf? f = none) (hfn : C.prog.funcs[f]? = some fn)
    (witness : ∃ (w : World) (tape : Tape) (i : Input), w.os = os ∧ (w.forCall tape i).Shaped C.prog ∧ i.vars = [] ∧ Input.okWide C.prog (w.forCall tape i) .any w.heap.size f i ∧
      ((s.pre enc C.prog fn conds apart (w.forCall tape i).memory i.args ∧ X (w.forCall tape i).memory i.args) ∧ sizedMet enc C.prog fn (OpenSpec.ofChange s) apart (w.forCall tape i).memory i.args) ∧ a.holds C.prog (lone (Frame.enter C.prog f i.args .normal) [] (w.forCall tape i)))
    (contract : ∀ (W : World) (base : Nat) (args : Array Value) (ds gs : List (DataW H)) (before : List MemPlace),
      (∀ (j : Nat) t v, fn.params[j]? = some t → args[j]? = some v → Value.okWide C.prog W .any base t v) →
      DataW.Whole enc C.prog fn.params.toList s.vars apart W args.toList ds gs before →
      conds.all (PathCond.test C.prog ⟨fn.params.toList, ds, s.plain.varTypes C.prog, gs⟩) = true →
      (DataW.weightsEach C.prog (fn.params.toList ++ s.plain.varTypes C.prog) (ds ++ gs)).all (· ≤ reachBytes) = true → X W args → W.ShapedOpen C.prog →
      a.holds C.prog (lone (Frame.enter C.prog f args .normal) [] W) →
      Calls C.prog f args W fun e W' => ∃ v, e = .returned v ∧ s.post enc C.prog fn apart fresh handsOn again W args v W') :
    ReturnsInHanded a C os f .any (fun w args => (s.pre enc C.prog fn conds apart w args ∧ X w args) ∧ sizedMet enc C.prog fn (OpenSpec.ofChange s) apart w args) (s.post enc C.prog fn apart fresh handsOn again) := by
  refine returnsInHanded_of_calls own started noInit witness ?_
  intro w tape i _ hsh _ hok hpre hholds
  obtain ⟨_, _, _, fn', hfn', _, _, _, _, hval⟩ := hok
  have e : fn' = fn := Option.some.inj (hfn'.symm.trans hfn)
  subst e
  obtain ⟨⟨⟨ds, gs, before, hw, hc⟩, hx⟩, hz⟩ := hpre
  have hw' := DataW.Whole.of_heap (w' := w.forCall tape i) (by rfl) hw
  refine (contract (w.forCall tape i) w.heap.size i.args ds gs before hval hw' hc (hz.weights hw) (hX _ _ _ (by rfl) hx) hsh hholds).mono fun e W' ⟨v, he, hp⟩ => ?_
  subst he
  exact ChangeSpec.post_blind hp
end
end Go.Proofs.YtcdinhmdeaplgaaGreatDoor
