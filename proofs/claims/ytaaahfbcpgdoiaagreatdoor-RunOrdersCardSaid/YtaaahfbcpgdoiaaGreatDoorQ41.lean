
/-
  THE LISTED VARIABLES of the laws of package run: worlds that meet them; that internal/bytealg.MaxLen holds a number, by the world's shape.
  CONTRACT of run.Run of a session that asks for the order, the order by view and the faces of deals that each read and write one item, one behind the other.
  CONTRACTS of laneref2.Digits of a deal's number and lanelaw3.RunOrders.
-/
import Derived.Test.YtaaahfbcpgdoiaaGreatDoorQ21
import Derived.Test.YtaaahfbcpgdoiaaGreatDoorTie
import Derived.Test.YtaaahfbcpgdoiaaGreatDoorCards
import Derived.Test.YtaaahfbcpgdoiaaGreatDoorQ6
import Derived.ChangeVars
import Derived.JoinedOf
import Derived.RowKit
import Derived.LaidLaws
import Derived.LaidHandle
import Derived.Stop.Joined
import Derived.Lib.SmallJoins
import Derived.Lib.LaidIn
import Derived.HandedShaped
import Derived.Lay
import Derived.Test.YtaaahfbcpgdoiaaGreatDoorQ35
import Derived.Test.YtaaahfbcpgdoiaaGreatDoorQ40

namespace Go.Proofs.YtaaahfbcpgdoiaaGreatDoor
open Go.ChangeShapes Go.WideShapes Go.ChangeAt Go.RowKit Go.Deep Go.Lib

theorem dOwn : ownKnob Tryz.prog.godebug = none := by kernel_rfl
abbrev dLaid7 : List (String × DataW Unit) := [("math/bits.deBruijn32tab", Rows.laid_math_bits_deBruijn32tab), ("math/bits.deBruijn64tab", Rows.laid_math_bits_deBruijn64tab), ("internal/strconv.uint64pow10", Rows.laid_internal_strconv_uint64pow10), ("unicode/utf8.acceptRanges", Rows.laid_unicode_utf8_acceptRanges), ("errors.errorType", Rows.laid_errors_errorType), ("locklane/run.unread", Rows.laid_locklane_run_unread), ("unicode/utf8.first", Rows.laid_unicode_utf8_first)]
abbrev dLaid6 : List (String × DataW Unit) := [("math/bits.deBruijn32tab", Rows.laid_math_bits_deBruijn32tab), ("math/bits.deBruijn64tab", Rows.laid_math_bits_deBruijn64tab), ("internal/strconv.uint64pow10", Rows.laid_internal_strconv_uint64pow10), ("unicode/utf8.acceptRanges", Rows.laid_unicode_utf8_acceptRanges), ("locklane/run.unread", Rows.laid_locklane_run_unread), ("unicode/utf8.first", Rows.laid_unicode_utf8_first)]
noncomputable def laidWorld7 (os : Os) : World :=
  let w0 := World.laidAll Tryz.prog os dLaid6
  { w0 with heap := w0.heap.modify 1 fun
      | .cells _ t frozen => .cells #[.iface 154 (.agg #[.pointer (some ⟨8, 40, none⟩)])] t frozen
      | o => o }
theorem laidWorld7_met (os : Os) (args : Array Value) : laidMetH Tryz.prog dLaid7 ((laidWorld7 os).forCall (fun _ _ => 0) ⟨#[], args, []⟩).memory :=
  laidMetH_of_parts (LaidIn.of_run (l := dLaid6) [6, 7, 5, 4, 0, 3] 8 (by kernel_rfl) (by kernel_rfl) (by kernel_rfl) (by kernel_rfl)).met (by kernel_rfl)
theorem mx_of_shaped {W : World} (h : W.ShapedOpen Tryz.prog) : Mx W := (Tryz.lSplit).s1_3 W h
section
variable {H : Type} {enc : TypeId × Value → H}
/-- The kit's two wraps ('.._and', '.._shaped') in one. -/
theorem returns_and_shaped {a : Assume} {C : Checked} {os : Os} {f : FuncId} {fn : Func} {s : ChangeSpec} {conds : List PathCond} {apart fresh handsOn again : Bool} {X : World → Array Value → Prop}
    (hX : ∀ (w w' : World) (args : Array Value), w.heap = w'.heap → X w args → X w' args)
    (own : ownKnob C.prog.godebug = none) (started : os.Started) (noInit : C.prog.inits.idxOf? f = none) (hfn : C.prog.funcs[f]? = some fn)
    (witness : ∃ (w : World) (tape : Tape) (i : Input), w.os = os ∧ (w.forCall tape i).Shaped C.prog ∧ i.vars = [] ∧ Input.okWide C.prog (w.forCall tape i) .any w.heap.size f i ∧
      ((s.pre enc C.prog fn conds apart (w.forCall tape i).memory i.args ∧ X (w.forCall tape i).memory i.args) ∧ sizedMet enc C.prog fn (OpenSpec.ofChange s) apart (w.forCall tape i).memory i.args) ∧ a.holds C.prog (lone (Frame.enter C.prog f i.args .normal) [] (w.forCall tape i)))
    (contract : ∀ (W : World) (base : Nat) (args : Array Value) (ds gs : List (DataW H)) (before : List MemPlace),
      (∀ (j : Nat) t v, fn.params[j]? = some t → args[j]? = some v → Value.okWide C.prog W .any base t v) →
      DataW.Whole enc C.prog fn.params.toList s.vars apart W args.toList ds gs before →
      conds.all (PathCond.test C.prog ⟨fn.params.toList, ds, s.plain.varTypes C.prog, gs⟩) = true →
      (DataW.weightsEach C.prog (fn.params.toList ++ s.plain.varTypes C.prog) (ds ++ gs)).all (· ≤ reachBytes) = true → X W args → W.ShapedOpen C.prog →
      a.holds C.prog (lone (Frame.enter C.prog f args .normal) [] W) →
      Calls C.prog f args W fun e W' => ∃ v, e = .returned v ∧ s.post enc C.prog fn apart fresh handsOn again W args v W') :
    ReturnsInHanded a C os f .any (fun w args => (s.pre enc C.prog fn conds apart w args ∧ X w args) ∧ sizedMet enc C.prog fn (OpenSpec.ofChange s) apart w args) (s.post enc C.prog fn apart fresh handsOn again) := by
  refine returnsInHanded_of_calls own started noInit witness ?_
  intro w tape i _ hsh _ hok hpre hholds
  obtain ⟨_, _, _, fn', hfn', _, _, _, _, hval⟩ := hok
  have e : fn' = fn := Option.some.inj (hfn'.symm.trans hfn)
  subst e
  obtain ⟨⟨⟨ds, gs, before, hw, hc⟩, hx⟩, hz⟩ := hpre
  have hw' := DataW.Whole.of_heap (w' := w.forCall tape i) (by rfl) hw
  refine (contract (w.forCall tape i) w.heap.size i.args ds gs before hval hw' hc (hz.weights hw) (hX _ _ _ (by rfl) hx) hsh hholds).mono fun e W' ⟨v, he, hp⟩ => ?_
  subst he
  exact ChangeSpec.post_blind hp
end
end Go.Proofs.YtaaahfbcpgdoiaaGreatDoor


namespace Go.Proofs.YtaaahfbcpgdoiaaGreatDoor
open Go.RowKit Go.Shelf

def digB (x : Int) : UInt8 := UInt8.ofNat (48 + x.toNat)
/-- Deals as numbers. -/
def wantW (q : List Int) : List UInt8 := if q = [] then [45] else [32].intercalate (q.map fun x => [digB x])
theorem itoa_dig {x : Int} (h : 1 ≤ x ∧ x ≤ 6) : Go.Lib.itoa x = [digB x] := by
  unfold Go.Lib.itoa
  rw [if_neg (by omega)]
  unfold Go.Lib.decDigits
  rw [dif_pos (by omega)]
  rfl
theorem numsW_ord {q : List Int} (h : OrdOk q) : numsW q = wantW q := by
  unfold numsW wantW rowW
  rw [List.map_congr_left (g := fun x => [digB x]) (fun x hx => itoa_dig (h.rg x hx))]
  by_cases e : q = []
  · rw [if_pos e, if_pos (by rw [e]; rfl)]
  · rw [if_neg e, if_neg (by simpa using e)]
theorem mem_inter {x : UInt8} : ∀ {L : List (List UInt8)}, x ∈ [32].intercalate L → x = 32 ∨ ∃ l ∈ L, x ∈ l
  | [], h => by simp [List.intercalate] at h
  | [a], h => by rw [inter_one] at h; exact .inr ⟨a, by simp, h⟩
  | a :: b :: L, h => by
    rw [inter_cons, List.mem_append, List.mem_cons] at h
    rcases h with h | h | h
    · exact .inr ⟨a, by simp, h⟩
    · exact .inl h
    · rcases mem_inter h with h | ⟨l, hl, h⟩
      · exact .inl h
      · exact .inr ⟨l, List.mem_cons_of_mem _ hl, h⟩
theorem print_no10 {h : List HOp} (hr : ∀ o ∈ h, rightB o = true) : (10 : UInt8) ∉ printL h := fun hx => by
  rcases mem_inter hx with h | ⟨l, hl, h⟩
  · cases h
  · obtain ⟨o, ho, rfl⟩ := List.mem_map.1 hl
    exact (text_free o (mem_allOps.1 (hr o ho))).2.1 h
def orderW : List UInt8 := [111, 114, 100, 101, 114]
def viewW : List UInt8 := [118, 105, 101, 119]
def faceW : List UInt8 := [102, 97, 99, 101, 115]
def facesA : List UInt8 := [114, 101, 99, 111, 118, 101, 114, 97, 98, 108, 101, 32, 99, 97, 117, 116, 105, 111, 117, 115, 32, 115, 116, 114, 105, 99, 116, 32, 114, 105, 103, 111, 114, 111, 117, 115]
def histL (q : List Int) : List UInt8 := histB ++ 32 :: printL (piecesH 1 1 q)
def sessL (q : List Int) : List UInt8 := histL q ++ 10 :: (orderW ++ 10 :: (viewW ++ 10 :: (faceW ++ [10])))
def resL (q : List Int) : List UInt8 := [111, 107, 10] ++ (wantW q ++ 10 :: (wantW q ++ 10 :: (facesA ++ [10])))
theorem hist_no10 {q : List Int} (h : OrdOk q) : (10 : UInt8) ∉ histL q := by
  have h1 := print_no10 (okH_right (pieces_ok (a := 1) (b := 1) (by omega) (by omega) h))
  unfold histL histB
  simp [h1]
theorem sess_lines {q : List Int} (h : OrdOk q) : linesL (sessL q) = [histL q ++ [10], orderW ++ [10], viewW ++ [10], faceW ++ [10]] := by
  unfold sessL
  rw [lines_at (hist_no10 h), lines_at (by decide), lines_at (by decide), show faceW ++ [10] = faceW ++ 10 :: [] from rfl, lines_at (by decide), lines_nil]
theorem hist_len {q : List Int} (h : OrdOk q) : (printL (piecesH 1 1 q)).length ≤ 108 := by
  have h1 := printL_len _ (okH_right (pieces_ok (a := 1) (b := 1) (by omega) (by omega) h))
  rw [piecesH_len] at h1
  have := h.len
  omega
theorem sess_len {q : List Int} (h : OrdOk q) : (sessL q).length ≤ 3000 := by
  have h1 := hist_len h
  unfold sessL histL histB orderW viewW faceW
  simp
  omega
/-- What the desk answers in that session. -/
def fQ (q : List Int) (h : List HOp) (x : List UInt8) : List HOp × List UInt8 :=
  if x = histL q then (piecesH 1 1 q, [111, 107]) else if x = orderW then (h, numsW (ordL h)) else if x = viewW then (h, numsW (vordL h)) else (h, facesW (facesF h))
theorem fQ0 (q : List Int) (h : List HOp) : fQ q h (histL q) = (piecesH 1 1 q, [111, 107]) := by unfold fQ; rw [if_pos rfl]
theorem hist_ne {q : List Int} {x : List UInt8} (hx : x.head? ≠ some 104) : x ≠ histL q := fun e => hx (by rw [e]; rfl)
theorem fQ1 {q : List Int} (h : OrdOk q) : fQ q (piecesH 1 1 q) orderW = (piecesH 1 1 q, wantW q) := by
  have hk := pieces_ok (a := 1) (b := 1) (by omega) (by omega) h
  unfold fQ
  rw [if_neg (hist_ne (by decide)), if_pos rfl, (ord_some hk (pieces_orderOf h)).2, numsW_ord h]
theorem fQ2 {q : List Int} (h : OrdOk q) : fQ q (piecesH 1 1 q) viewW = (piecesH 1 1 q, wantW q) := by
  have hk := pieces_ok (a := 1) (b := 1) (by omega) (by omega) h
  unfold fQ
  rw [if_neg (hist_ne (by decide)), if_neg (by decide), if_pos rfl, (vord_some hk (pieces_vOrd h)).2, numsW_ord h]
theorem fQ3 {q : List Int} (h : OrdOk q) : fQ q (piecesH 1 1 q) faceW = (piecesH 1 1 q, facesA) := by
  unfold fQ
  rw [if_neg (hist_ne (by decide)), if_neg (by decide), if_neg (by decide), pieces_faces h]
  congr 1
theorem stQ1 (q : List Int) : stR (fQ q) [histL q ++ [10]] = (piecesH 1 1 q, [111, 107, 10]) := by
  simp only [stR, List.foldl_cons, List.foldl_nil, stepR, trimN_at, fQ0]
  rfl
theorem stQ2 {q : List Int} (h : OrdOk q) : stR (fQ q) [histL q ++ [10], orderW ++ [10]] = (piecesH 1 1 q, [111, 107, 10] ++ (wantW q ++ [10])) := by
  rw [show [histL q ++ [10], orderW ++ [10]] = [histL q ++ [10]] ++ [orderW ++ [10]] from rfl, stR_app, stQ1]
  simp only [stepR, trimN_at, fQ1 h]
theorem stQ3 {q : List Int} (h : OrdOk q) : stR (fQ q) [histL q ++ [10], orderW ++ [10], viewW ++ [10]] = (piecesH 1 1 q, [111, 107, 10] ++ (wantW q ++ [10]) ++ (wantW q ++ [10])) := by
  rw [show [histL q ++ [10], orderW ++ [10], viewW ++ [10]] = [histL q ++ [10], orderW ++ [10]] ++ [viewW ++ [10]] from rfl, stR_app, stQ2 h]
  simp only [stepR, trimN_at, fQ2 h]
theorem stQ4 {q : List Int} (h : OrdOk q) : stR (fQ q) [histL q ++ [10], orderW ++ [10], viewW ++ [10], faceW ++ [10]] = (piecesH 1 1 q, resL q) := by
  rw [show [histL q ++ [10], orderW ++ [10], viewW ++ [10], faceW ++ [10]] = [histL q ++ [10], orderW ++ [10], viewW ++ [10]] ++ [faceW ++ [10]] from rfl, stR_app, stQ3 h]
  simp only [stepR, trimN_at, fQ3 h]
  unfold resL
  simp
theorem want_len {q : List Int} (h : OrdOk q) : (wantW q).length ≤ 20 := by
  unfold wantW
  split
  · simp
  · have h1 := inter_len [32] (q.map fun x => [digB x]) 1 (fun x hx => by
      obtain ⟨y, _, rfl⟩ := List.mem_map.1 hx
      simp)
    have := h.len
    simp at h1
    simp
    omega
theorem prefix4 {α : Type} {a b c d : α} {pre : List α} (h : pre <+: [a, b, c, d]) : pre = [] ∨ pre = [a] ∨ pre = [a, b] ∨ pre = [a, b, c] ∨ pre = [a, b, c, d] := by
  obtain ⟨r, h⟩ := h
  rcases pre with _ | ⟨x, _ | ⟨y, _ | ⟨z, _ | ⟨u, _ | ⟨v, t⟩⟩⟩⟩⟩
  · exact .inl rfl
  · simp at h; simp [h.1]
  · simp at h; simp [h.1, h.2.1]
  · simp at h; simp [h.1, h.2.1, h.2.2.1]
  · simp at h; simp [h.1, h.2.1, h.2.2.1, h.2.2.2.1]
  · simp at h
theorem split4 {α : Type} {a b c d x : α} {pre r : List α} (h : [a, b, c, d] = pre ++ x :: r) : (pre = [] ∧ x = a) ∨ (pre = [a] ∧ x = b) ∨ (pre = [a, b] ∧ x = c) ∨ (pre = [a, b, c] ∧ x = d) := by
  rcases pre with _ | ⟨x, _ | ⟨y, _ | ⟨z, _ | ⟨u, t⟩⟩⟩⟩
  · simp at h; exact .inl ⟨rfl, h.1.symm⟩
  · simp at h; exact .inr (.inl ⟨by rw [h.1], h.2.1.symm⟩)
  · simp at h; exact .inr (.inr (.inl ⟨by rw [h.1, h.2.1], h.2.2.1.symm⟩))
  · simp at h; exact .inr (.inr (.inr ⟨by rw [h.1, h.2.1, h.2.2.1], h.2.2.2.1.symm⟩))
  · simp at h
set_option maxRecDepth 100000 in
theorem run_sess (q : List Int) (hq : OrdOk q) (w : World) (hm : Mx w) :
    Calls Tryz.prog 5 #[.string ⟨(sessL q).toArray⟩] w fun e w' => e = .returned (.string ⟨(resL q).toArray⟩) ∧ Below w.heap.size w w' := by
  have hL := sess_lines hq
  have hk := pieces_ok (a := 1) (b := 1) (by omega) (by omega) hq
  have hwl := want_len hq
  have e : runF (fQ q) (sessL q) = resL q := by
    unfold runF
    have := sess_len hq
    rw [if_neg (by omega), hL, stQ4 hq]
  rw [← e]
  refine run_any (fQ q) (sessL q) w ?_ ?_
  · rw [hL]
    intro pre hp
    rcases prefix4 hp with rfl | rfl | rfl | rfl | rfl
    · exact Nat.zero_le _
    · rw [stQ1]; show 3 ≤ _; omega
    · rw [stQ2 hq]; simp; omega
    · rw [stQ3 hq]; simp; omega
    · rw [stQ4 hq]; unfold resL facesA; simp; omega
  · rw [hL]
    intro pre x r W A n c hz hb D
    have hmW := hm.below hb hm.pos
    rcases split4 hz with ⟨rfl, rfl⟩ | ⟨rfl, rfl⟩ | ⟨rfl, rfl⟩ | ⟨rfl, rfl⟩
    · rw [trimN_at, fQ0]
      obtain ⟨p1, p2⟩ := parse_print hk
      have h1 := line_hist (printL (piecesH 1 1 q)) p1 w.heap.size w.heap.size A n c _ W hmW hm.pos D (by have := hist_len hq; omega)
      rw [p2] at h1
      exact answer_nil _ _ _ _ _ _ h1
    · rw [stQ1] at D ⊢
      rw [trimN_at]
      simp only [fQ1 hq]
      have h1 := line_order w.heap.size w.heap.size A n c _ W hmW D
      rw [(ord_some hk (pieces_orderOf hq)).2, (ord_some hk (pieces_orderOf hq)).1, errV_zero, numsW_ord hq] at h1
      exact answer_nil _ _ _ _ _ _ h1
    · rw [stQ2 hq] at D ⊢
      rw [trimN_at]
      simp only [fQ2 hq]
      have h1 := line_view w.heap.size w.heap.size A n c _ W hmW D
      rw [(vord_some hk (pieces_vOrd hq)).2, (vord_some hk (pieces_vOrd hq)).1, errV_zero, numsW_ord hq] at h1
      exact answer_nil _ _ _ _ _ _ h1
    · rw [stQ3 hq] at D ⊢
      rw [trimN_at]
      simp only [fQ3 hq]
      have h1 := line_faces w.heap.size w.heap.size A n c _ W hmW D
      rw [pieces_faces hq, show facesW ⟨true, true, true, true⟩ = facesA by decide] at h1
      exact answer_nil _ _ _ _ _ _ h1
end Go.Proofs.YtaaahfbcpgdoiaaGreatDoor


namespace Go.Proofs.YtaaahfbcpgdoiaaGreatDoor
open Go.RowKit Go.Shelf

theorem digits_any (x : Int) (h : 1 ≤ x ∧ x ≤ 6) (w : World) : Calls Tryz.prog 6 #[.int .i64 x] w fun e w' => e = .returned (.string ⟨#[digB x]⟩) ∧ w' = w := by
  have : x = 1 ∨ x = 2 ∨ x = 3 ∨ x = 4 ∨ x = 5 ∨ x = 6 := by omega
  rcases this with rfl | rfl | rfl | rfl | rfl | rfl
  all_goals
    go_enter Tryz.func6, Tryz.ntmps6
    go_wp2
    go_ret
    exact ⟨rfl, rfl⟩
theorem inter_snoc : ∀ (L : List (List UInt8)) (l : List UInt8), [32].intercalate (L ++ [l]) = (if L = [] then [] else [32].intercalate L ++ [32]) ++ l
  | [], l => by rw [if_pos rfl]; exact inter_one _ _
  | [a], l => by
    rw [if_neg (by simp), inter_one]
    show [32].intercalate [a, l] = _
    rw [inter_cons, inter_one]; simp
  | a :: b :: L, l => by
    rw [if_neg (by simp)]
    show [32].intercalate (a :: b :: (L ++ [l])) = _
    rw [inter_cons, inter_cons]
    have := inter_snoc (b :: L) l
    rw [if_neg (by simp)] at this
    rw [show b :: (L ++ [l]) = b :: L ++ [l] from rfl, this]
    simp
def wq (q : List Int) : List UInt8 := [32].intercalate (q.map fun x => [digB x])
theorem wq_step (q : List Int) (x : Int) : wq (q ++ [x]) = (if q = [] then [] else wq q ++ [32]) ++ [digB x] := by
  unfold wq
  rw [List.map_append, List.map_cons, List.map_nil, inter_snoc]
  simp only [List.map_eq_nil_iff]
theorem sess_step (q : List Int) (x : Int) : printL (piecesH 1 1 (q ++ [x])) = (if q = [] then [] else printL (piecesH 1 1 q) ++ [32]) ++ [114, digB x, 40, 97, 41, 32, 119, digB x, 40, 97, 41, 32, 99, digB x] := by
  rw [piecesH_snoc, show piecesH 1 1 q ++ [(⟨x, 1, 1⟩ : HOp), ⟨x, 2, 1⟩, ⟨x, 3, 0⟩] = ((piecesH 1 1 q ++ [⟨x, 1, 1⟩]) ++ [⟨x, 2, 1⟩]) ++ [⟨x, 3, 0⟩] by simp, printL_snoc, if_neg (by simp), printL_snoc, if_neg (by simp), printL_snoc]
  have h0 : piecesH 1 1 q = [] ↔ q = [] := by
    rw [← List.length_eq_zero_iff, piecesH_len, ← List.length_eq_zero_iff]; omega
  by_cases e : q = []
  · rw [if_pos (h0.2 e), if_pos e]
    rfl
  · rw [if_neg (fun h => e (h0.1 h)), if_neg e]
    simp [textL, digB, whatL]
theorem sess_nil {q : List Int} (h : OrdOk q) : printL (piecesH 1 1 q) = [] ↔ q = [] := by
  rw [printL_nil_iff (okH_right (pieces_ok (a := 1) (b := 1) (by omega) (by omega) h)), ← List.length_eq_zero_iff, piecesH_len, ← List.length_eq_zero_iff]
  omega
/-- Which deals there were. -/
def EsIn (es : List Bool) (q : List Int) : Prop := es.length = 7 ∧ ∀ x : Int, 1 ≤ x ∧ x ≤ 6 → es.getD x.toNat false = decide (x ∈ q)
theorem EsIn.set {es : List Bool} {q : List Int} (h : EsIn es q) {x : Int} (hx : 1 ≤ x ∧ x ≤ 6) : EsIn (es.set x.toNat true) (q ++ [x]) := by
  refine ⟨by simp [h.1], fun y hy => ?_⟩
  by_cases e : y = x
  · subst e
    rw [List.getD_eq_getElem?_getD, List.getElem?_set_self (by rw [h.1]; omega)]
    simp
  · rw [List.getD_eq_getElem?_getD, List.getElem?_set_ne (by omega), ← List.getD_eq_getElem?_getD, h.2 y hy]
    simp [e]
theorem esIn_nil : EsIn (List.replicate 7 false) [] := ⟨rfl, fun x hx => by
  have : x = 1 ∨ x = 2 ∨ x = 3 ∨ x = 4 ∨ x = 5 ∨ x = 6 := by omega
  rcases this with rfl | rfl | rfl | rfl | rfl | rfl <;> rfl⟩
theorem wq_len {q : List Int} (h : OrdOk q) : (wq q).length ≤ 12 := by
  have h1 := inter_len [32] (q.map fun x => [digB x]) 1 (fun x hx => by
    obtain ⟨y, _, rfl⟩ := List.mem_map.1 hx
    simp)
  have := h.len
  simp only [List.length_map, List.length_cons, List.length_nil] at h1
  unfold wq
  omega
theorem wantW_wq {q : List Int} (h : q ≠ []) : wantW q = wq q := by unfold wantW; rw [if_neg h]; rfl
theorem OrdOk.snoc {q : List Int} (h : OrdOk q) {x : Int} (hx : 1 ≤ x ∧ x ≤ 6) (hn : x ∉ q) : OrdOk (q ++ [x]) := by
  refine ⟨List.nodup_append.2 ⟨h.nd, by simp, fun a ha b hb => ?_⟩, fun t ht => ?_⟩
  · rw [List.mem_singleton] at hb; subst hb; exact fun e => hn (e ▸ ha)
  · rcases List.mem_append.1 ht with h1 | h1
    · exact h.rg t h1
    · rw [List.mem_singleton] at h1; subst h1; exact hx
set_option maxRecDepth 100000 in
set_option maxHeartbeats 4000000 in
theorem runOrders_any (A : Option Addr) (n c : Nat) (l : List Int) (w : World) (hr : Rd w w.heap.size 1 A n (cellsI l)) (hn : n ≤ 100000000000000) (hm : Mx w) :
    Calls Tryz.prog 4 #[.slice A n c] w fun e w' => e = .returned (.bool true) ∧ Below w.heap.size w w' := by
  have HL := Lib.hid hr.ilen
  have HM := Lib.hid hm
  clear hm
  go_enter Tryz.func4, Tryz.ntmps4
  go_wp2
  go_loopw [3, 4, 6] (fun t3 t4 i wr => ∃ (k : Nat) (q : List Int) (es : List Bool), k ≤ n ∧ k ≤ 6 ∧ i = .int .i64 k ∧ OrdOk q ∧ t3 = .string ⟨(printL (piecesH 1 1 q)).toArray⟩ ∧ t4 = .string ⟨(wq q).toArray⟩ ∧ EsIn es q ∧ Blk wr w.heap.size 25 (es.map .bool) ∧ Below w.heap.size w wr)
    (fun _ _ i _ => 6 - (intOf i).toNat)
  case atStart => exact ⟨0, [], List.replicate 7 false, Nat.zero_le _, Nat.zero_le _, rfl, ⟨List.nodup_nil, by simp⟩, rfl, rfl, esIn_nil, Blk.new w _ _, (Below.refl _ _).alloc (Nat.le_refl _) _⟩
  case round =>
    obtain ⟨k, q, es, hk, hk2, rfl, hq, rfl, rfl, hes, hB, hbw⟩ := hrel
    have hBlt := hB.lt
    have hsz := hbw.size
    have HT1 := Lib.hid (show (⟨(printL (piecesH 1 1 q)).toArray⟩ : ByteArray) = ⟨(printL (piecesH 1 1 q)).toArray⟩ from rfl)
    have hts : (⟨(printL (piecesH 1 1 q)).toArray⟩ : ByteArray).size ≤ 108 := hist_len hq
    have hws : (⟨(wq q).toArray⟩ : ByteArray).size ≤ 12 := wq_len hq
    by_cases hlt : k < n ∧ k < 6
    · obtain ⟨hlt, hlt2⟩ := hlt
      obtain ⟨bb, off, x, he, hb, hx, c0⟩ := (hr.below hbw).int (k := k) (by omega)
      cases he
      clear hx
      by_cases hr1 : 1 ≤ x
      · by_cases hr2 : x ≤ 6
        · have ed := hes.2 x ⟨hr1, hr2⟩
          obtain ⟨eb, heb⟩ : ∃ eb, es[x.toNat]? = some eb := ⟨_, List.getElem?_eq_getElem (by rw [hes.1]; omega)⟩
          have hct : wr.cell? ⟨w.heap.size, x.toNat, none⟩ = some (.bool eb) := hB.cellS (by rw [List.getElem?_map, heb]; rfl)
          have hft : wr.frozen? ⟨w.heap.size, x.toNat, none⟩ = false := hB.frozen _
          rw [List.getD_eq_getElem?_getD, heb] at ed
          cases eb
          · have hni : x ∉ q := by
              intro h
              rw [decide_eq_true h] at ed
              cases ed
            have HQ := Lib.hid (hq.snoc ⟨hr1, hr2⟩ hni)
            have HS := Lib.hid (hes.set ⟨hr1, hr2⟩)
            have hB2 := hB.put x.toNat (.bool true)
            rw [← List.map_set (f := Value.bool)] at hB2
            have HB2 := Lib.hid hB2
            clear hB2 heb ed hni
            by_cases hq0 : q = []
            · have ht0 : (⟨(printL (piecesH 1 1 q)).toArray⟩ : ByteArray).toList.isEmpty = true := by rw [ByteArray.toList_eq, (sess_nil hq).2 hq0]; rfl
              have HS1 : Hid ((⟨(printL (piecesH 1 1 (q ++ [x]))).toArray⟩ : ByteArray) = ⟨(printL (piecesH 1 1 q)).toArray⟩ ++ ⟨#[114]⟩ ++ ⟨#[digB x]⟩ ++ ⟨#[40, 97, 41, 32, 119]⟩ ++ ⟨#[digB x]⟩ ++ ⟨#[40, 97, 41, 32, 99]⟩ ++ ⟨#[digB x]⟩) := Lib.hid (by
                rw [sess_step, if_pos hq0, (sess_nil hq).2 hq0]
                apply ByteArray.ext
                simp [ByteArray.data_append])
              have HS2 : Hid ((⟨(wq (q ++ [x])).toArray⟩ : ByteArray) = ⟨(wq q).toArray⟩ ++ ⟨#[digB x]⟩) := Lib.hid (by
                rw [wq_step, if_pos hq0, show wq q = [] by rw [hq0]; rfl]
                apply ByteArray.ext
                simp [ByteArray.data_append])
              generalize (⟨(printL (piecesH 1 1 q)).toArray⟩ : ByteArray) = TX at *
              generalize (⟨(wq q).toArray⟩ : ByteArray) = WX at *
              go_wp2_with (go_at_call 6; refine (digits_any x ⟨hr1, hr2⟩ _).mono ?_; rintro e w1 ⟨rfl, rfl⟩)
              go_roundw
              case rel => exact ⟨k + 1, q ++ [x], es.set x.toNat true, by omega, by omega, by go_num, HQ.out, by rw [HS1.out], by rw [HS2.out], HS.out, HB2.out, hbw.setCell (Nat.le_refl _) _⟩
              case measure => simp [intOf]; omega
            · have ht0 : (⟨(printL (piecesH 1 1 q)).toArray⟩ : ByteArray).toList.isEmpty = false := by
                rw [ByteArray.toList_eq]
                cases h : printL (piecesH 1 1 q) with
                | nil => exact absurd ((sess_nil hq).1 h) hq0
                | cons a b => rfl
              have HS1 : Hid ((⟨(printL (piecesH 1 1 (q ++ [x]))).toArray⟩ : ByteArray) = ⟨(printL (piecesH 1 1 q)).toArray⟩ ++ ⟨#[32]⟩ ++ ⟨#[114]⟩ ++ ⟨#[digB x]⟩ ++ ⟨#[40, 97, 41, 32, 119]⟩ ++ ⟨#[digB x]⟩ ++ ⟨#[40, 97, 41, 32, 99]⟩ ++ ⟨#[digB x]⟩) := Lib.hid (by
                rw [sess_step, if_neg hq0]
                apply ByteArray.ext
                simp [ByteArray.data_append])
              have HS2 : Hid ((⟨(wq (q ++ [x])).toArray⟩ : ByteArray) = ⟨(wq q).toArray⟩ ++ ⟨#[32]⟩ ++ ⟨#[digB x]⟩) := Lib.hid (by
                rw [wq_step, if_neg hq0]
                apply ByteArray.ext
                simp [ByteArray.data_append])
              generalize (⟨(printL (piecesH 1 1 q)).toArray⟩ : ByteArray) = TX at *
              generalize (⟨(wq q).toArray⟩ : ByteArray) = WX at *
              go_wp2_with (go_at_call 6; refine (digits_any x ⟨hr1, hr2⟩ _).mono ?_; rintro e w1 ⟨rfl, rfl⟩)
              go_roundw
              case rel => exact ⟨k + 1, q ++ [x], es.set x.toNat true, by omega, by omega, by go_num, HQ.out, by rw [HS1.out], by rw [HS2.out], HS.out, HB2.out, hbw.setCell (Nat.le_refl _) _⟩
              case measure => simp [intOf]; omega
          · clear heb ed
            go_wp2
            go_roundw
            case rel => exact ⟨k + 1, q, es, by omega, by omega, by go_num, hq, rfl, rfl, hes, hB, hbw⟩
            case measure => simp [intOf]; omega
        · go_wp2
          go_roundw
          case rel => exact ⟨k + 1, q, es, by omega, by omega, by go_num, hq, rfl, rfl, hes, hB, hbw⟩
          case measure => simp [intOf]; omega
      · go_wp2
        go_roundw
        case rel => exact ⟨k + 1, q, es, by omega, by omega, by go_num, hq, rfl, rfl, hes, hB, hbw⟩
        case measure => simp [intOf]; omega
    · have hex : k = n ∨ (k < n ∧ k = 6) := by omega
      have CR := hide (run_sess q hq wr (HM.out.below hbw HM.out.pos))
      have hc1 : (⟨#[104, 105, 115, 116, 111, 114, 121, 32]⟩ : ByteArray) ++ ⟨(printL (piecesH 1 1 q)).toArray⟩ ++ ⟨#[10, 111, 114, 100, 101, 114, 10, 118, 105, 101, 119, 10, 102, 97, 99, 101, 115, 10]⟩ = ⟨(sessL q).toArray⟩ := by
        apply ByteArray.ext
        simp [ByteArray.data_append, sessL, histL, histB, orderW, viewW, faceW]
      by_cases hq0 : q = []
      · have ht0 : (⟨(printL (piecesH 1 1 q)).toArray⟩ : ByteArray).toList.isEmpty = true := by rw [ByteArray.toList_eq, (sess_nil hq).2 hq0]; rfl
        have hc2 : (⟨#[111, 107, 10]⟩ : ByteArray) ++ ⟨#[45]⟩ ++ ⟨#[10]⟩ ++ ⟨#[45]⟩ ++ ⟨#[10, 114, 101, 99, 111, 118, 101, 114, 97, 98, 108, 101, 32, 99, 97, 117, 116, 105, 111, 117, 115, 32, 115, 116, 114, 105, 99, 116, 32, 114, 105, 103, 111, 114, 111, 117, 115, 10]⟩ = ⟨(resL q).toArray⟩ := by
          apply ByteArray.ext
          simp [ByteArray.data_append, resL, facesA, wantW, hq0]
        generalize (⟨(printL (piecesH 1 1 q)).toArray⟩ : ByteArray) = TX at *
        generalize (⟨(wq q).toArray⟩ : ByteArray) = WX at *
        generalize (⟨(sessL q).toArray⟩ : ByteArray) = SS at *
        generalize (⟨(resL q).toArray⟩ : ByteArray) = RS at *
        rcases hex with rfl | ⟨hlt, rfl⟩
        all_goals
          go_wp2_with (go_at_call 5; refine (unhide CR).mono ?_; rintro e w1 ⟨rfl, hb1⟩)
          go_ret
          exact ⟨rfl, hbw.trans (hb1.mono hsz)⟩
      · have ht0 : (⟨(printL (piecesH 1 1 q)).toArray⟩ : ByteArray).toList.isEmpty = false := by
          rw [ByteArray.toList_eq]
          cases h : printL (piecesH 1 1 q) with
          | nil => exact absurd ((sess_nil hq).1 h) hq0
          | cons a b => rfl
        have hc2 : (⟨#[111, 107, 10]⟩ : ByteArray) ++ ⟨(wq q).toArray⟩ ++ ⟨#[10]⟩ ++ ⟨(wq q).toArray⟩ ++ ⟨#[10, 114, 101, 99, 111, 118, 101, 114, 97, 98, 108, 101, 32, 99, 97, 117, 116, 105, 111, 117, 115, 32, 115, 116, 114, 105, 99, 116, 32, 114, 105, 103, 111, 114, 111, 117, 115, 10]⟩ = ⟨(resL q).toArray⟩ := by
          apply ByteArray.ext
          simp [ByteArray.data_append, resL, facesA, wantW_wq hq0]
        generalize (⟨(printL (piecesH 1 1 q)).toArray⟩ : ByteArray) = TX at *
        generalize (⟨(wq q).toArray⟩ : ByteArray) = WX at *
        generalize (⟨(sessL q).toArray⟩ : ByteArray) = SS at *
        generalize (⟨(resL q).toArray⟩ : ByteArray) = RS at *
        rcases hex with rfl | ⟨hlt, rfl⟩
        all_goals
          go_wp2_with (go_at_call 5; refine (unhide CR).mono ?_; rintro e w1 ⟨rfl, hb1⟩)
          go_ret
          exact ⟨rfl, hbw.trans (hb1.mono hsz)⟩
end Go.Proofs.YtaaahfbcpgdoiaaGreatDoor
