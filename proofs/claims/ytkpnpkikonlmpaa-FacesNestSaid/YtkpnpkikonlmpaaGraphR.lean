
/-
  CONTRACTS of graph.Order; slices.Index, Contains at edges; graph.around, Ring.
-/
import Derived.Test.YtkpnpkikonlmpaaGraphS
import Derived.WalkSpells

namespace Go.Proofs.Ytkpnpkikonlmpaa
open Go.RowKit Go.Shelf

/-! ### Order. -/
def orderE (E : List (Int × Int)) : Int := if checkG E ≠ 0 then checkG E else match topF E (namedF E) with | some _ => 0 | none => 8
def orderL (E : List (Int × Int)) : List Int := if checkG E ≠ 0 then [] else (topF E (namedF E)).getD []
theorem ends2_len (E : List (Int × Int)) : (ends2 E).length = E.length * 2 := by
  induction E with
  | nil => rfl
  | cons e t ih =>
    have : ends2 (e :: t) = [e.1, e.2] ++ ends2 t := rfl
    rw [this, List.length_append, ih]; simp; omega
theorem compL_le (l : List Int) : (compL l).length ≤ l.length := by
  have h : ∀ (t : List Int) (p : Int), (compGo p t).length ≤ t.length := by
    intro t
    induction t with
    | nil => intro p; exact Nat.le_refl _
    | cons y t ih => intro p; unfold compGo; split <;> simp <;> have := ih y <;> omega
  cases l with
  | nil => exact Nat.le_refl _
  | cons x t => simp only [compL, List.length_cons]; have := h t x; omega
theorem namedF_len (E : List (Int × Int)) : (namedF E).length ≤ E.length * 2 := by
  have := compL_le (sortI (ends2 E))
  rw [sortI_len, ends2_len] at this
  exact this
set_option maxHeartbeats 1000000 in
theorem gorder_any (A : Option Addr) (n cap : Nat) (E : List (Int × Int)) (w : World) (hr : Rd w w.heap.size 2 A n (dcells E)) (hm : n ≤ 9000000000000) :
    Calls Try.prog 27 #[.slice A n cap] w fun e w' => ∃ v k, e = .returned (.tuple #[v, errV (orderE E)]) ∧ w'.ownsRow w.heap.size 3 1 v k (cellsI (orderL E)) ∧ Below w.heap.size w w' := by
  have hl := hr.dlen
  have C := hide (gcheck_any A n cap E w hr hm)
  by_cases hc : checkG E = 0
  · have hn60 : n ≤ 60 := by
      unfold checkG at hc
      rw [hl] at hc
      split at hc
      · cases hc
      · omega
    have hnl := namedF_len E
    have HO : Hid (orderE E = (match topF E (namedF E) with | some _ => 0 | none => 8) ∧ orderL E = (topF E (namedF E)).getD []) := Lib.hid ⟨by unfold orderE; rw [if_neg (by simp [hc])], by unfold orderL; rw [if_neg (by simp [hc])]⟩
    rw [hc, show errV 0 = .nilIface from rfl] at C
    have hnn : (namedF E).length ≤ 120 := by omega
    clear hc hl hnl
    have CN := hide (fun w1 (hb : Below w.heap.size w w1) => named_any A n cap E w1 ((hr.below hb).more hb.size) (by omega))
    have CS := hide (fun w1 A1 c1 (hb : Below w.heap.size w w1) hd => gsort_any A1 (namedF E).length c1 (namedF E) A n cap E w1 hd ((hr.below hb).more hb.size) (by omega) hm)
    generalize namedF E = N at *
    go_enter Try.func27, Try.ntmps27
    go_wp2_with fail
    refine (unhide C).mono ?_
    rintro e w1 ⟨rfl, hb1⟩
    go_wp2_with fail
    refine (unhide CN w1 hb1).mono ?_
    rintro e w2 ⟨v2, rfl, ho2, hb2⟩
    obtain ⟨A2, c2, rfl⟩ := own_slice ho2
    have hbw2 := hb1.trans (hb2.mono hb1.size)
    go_wp2_with fail
    refine (unhide CS w2 A2 c2 hbw2 (rd_own ho2)).mono ?_
    rintro e w3 ⟨v3, k3, r3, L3, rfl, ho3, hcs, hb3⟩
    have hbw3 := hbw2.trans (hb3.mono hbw2.size)
    have ho3' := own_mono ho3 hbw2.size
    obtain ⟨A3, c3, rfl⟩ := own_slice ho3
    rcases hcs with ⟨htf, rfl⟩ | ⟨htf, rfl, rfl⟩
    · have HO2 : Hid (orderE E = 0 ∧ orderL E = L3) := Lib.hid (by rw [HO.out.1, HO.out.2, htf]; exact ⟨rfl, rfl⟩)
      clear htf
      go_wp2
      go_ret2
      exact ⟨_, _, by rw [HO2.out.1]; rfl, by rw [HO2.out.2]; exact ho3', hbw3⟩
    · have HO2 : Hid (orderE E = 8 ∧ orderL E = []) := Lib.hid (by rw [HO.out.1, HO.out.2, htf]; exact ⟨rfl, rfl⟩)
      clear htf
      go_wp2
      go_ret2
      exact ⟨_, 0, by rw [HO2.out.1]; rfl, by rw [HO2.out.2]; exact World.ownsRow_nil _ _ _ _, hbw3⟩
  · have HO : Hid (orderE E = checkG E ∧ orderL E = []) := Lib.hid ⟨by unfold orderE; rw [if_pos hc], by unfold orderL; rw [if_pos hc]⟩
    rw [ne_errV hc] at C
    have HV := Lib.hid (ne_errV hc)
    generalize checkG E = ev at *
    clear hc hl
    go_enter Try.func27, Try.ntmps27
    go_wp2_with fail
    refine (unhide C).mono ?_
    rintro e w1 ⟨rfl, hb1⟩
    go_wp2
    go_ret2
    exact ⟨_, 0, by rw [HO.out.1, HV.out]; rfl, by rw [HO.out.2]; exact World.ownsRow_nil _ _ _ _, hb1⟩

/-! ### Index, Contains at edges. -/
set_option maxHeartbeats 1000000 in
theorem index_edge (A : Option Addr) (n cap : Nat) (h : List (Int × Int)) (v : Int × Int) (w : World) (hr : Rd w w.heap.size 2 A n (dcells h)) (hm : n ≤ 9000000000000) :
    Calls Try.prog 99 #[.slice A n cap, eVal v] w fun e w' => e = .returned (.int .i64 (idxGo (fun o => decide (o = v)) 0 h)) ∧ Below w.heap.size w w' := by
  have HL := Lib.hid hr.dlen
  obtain ⟨v1, v2⟩ := v
  generalize hF : idxGo (fun o => decide (o = (v1, v2))) 0 h = F
  have HF0 := Lib.hid hF
  clear hF
  unfold eVal
  go_enter Try.func99, Try.ntmps99
  go_wp2
  go_loopw [8] (fun i wr => ∃ k : Nat, k ≤ n ∧ i = .int .i64 k ∧ Hid (F = idxGo (fun o => decide (o = (v1, v2))) k (h.drop k)) ∧ Blk wr w.heap.size 50 [.int .i64 v1, .int .i64 v2] ∧ Below w.heap.size w wr) (fun i _ => n - (intOf i).toNat)
  case atStart => exact ⟨0, Nat.zero_le _, rfl, Lib.hid HF0.out.symm, Blk.new w _ _, (Below.refl _ _).alloc (Nat.le_refl _) _⟩
  case round =>
    obtain ⟨k, hk, rfl, HE, hB, hbw⟩ := hrel
    have b0 := hB.cellS (i := 0) (v := .int .i64 v1) rfl
    have b1 := hB.cellS (i := 1) (v := .int .i64 v2) rfl
    by_cases hlt : k < n
    · obtain ⟨b, off, o, he, hb, ho, c0, c1⟩ := (hr.below hbw).pr (k := k) (by omega)
      cases he
      have HO := Lib.hid (drop_at ho)
      clear ho
      obtain ⟨y1, y2⟩ := o
      simp only at c0 c1
      by_cases hxy : (y1, y2) = (v1, v2)
      · have HE2 : Hid (F = k) := Lib.hid (by rw [HE.out, HO.out]; simp [idxGo, hxy])
        cases hxy
        go_wp2
        go_quiet (fail)
        go_wp2
        go_ret
        exact ⟨ret_int HE2.out.symm, below_drewN hbw _⟩
      · have HE2 : Hid (F = idxGo (fun o => decide (o = (v1, v2))) (k + 1 : Nat) (h.drop (k + 1))) := Lib.hid (by rw [HE.out, HO.out]; simp [idxGo, hxy])
        have hxy2 : ¬ (v1 = y1 ∧ v2 = y2) := fun h => hxy (by rw [h.1, h.2])
        clear hxy
        by_cases g1 : v1 = y1 <;> by_cases g2 : v2 = y2
        · exact absurd ⟨g1, g2⟩ hxy2
        all_goals
          try subst g1
          try subst g2
          clear hxy2
          go_wp2
          go_quiet (fail)
          go_wp2
          go_roundw
          case rel => exact ⟨k + 1, by omega, by go_num, HE2, hB, below_drewN hbw _⟩
          case measure => simp [intOf]; omega
    · have HE2 : Hid (F = -1) := Lib.hid (by rw [HE.out, drop_end (by rw [HL.out]; omega)]; rfl)
      go_wp2
      go_ret
      exact ⟨ret_int HE2.out.symm, hbw⟩
theorem contains_edge (A : Option Addr) (n cap : Nat) (h : List (Int × Int)) (v : Int × Int) (w : World) (hr : Rd w w.heap.size 2 A n (dcells h)) (hm : n ≤ 9000000000000) :
    Calls Try.prog 74 #[.slice A n cap, eVal v] w fun e w' => e = .returned (.bool (decide (v ∈ h))) ∧ Below w.heap.size w w' := by
  obtain ⟨v1, v2⟩ := v
  have hb0 : Below w.heap.size w (w.alloc (.cells #[.int .i64 v1, .int .i64 v2] 50)) := (Below.refl _ _).alloc (Nat.le_refl _) _
  have C := hide (index_edge A n cap h (v1, v2) _ ((hr.below hb0).more hb0.size) hm)
  have HA : Hid (decide (0 ≤ idxGo (fun o => decide (o = (v1, v2))) 0 h) = decide ((v1, v2) ∈ h)) := Lib.hid (by
    rw [idxGo_any, Bool.eq_iff_iff, List.any_eq_true, decide_eq_true_iff]
    exact ⟨fun ⟨x, hx, e⟩ => by rw [decide_eq_true_iff] at e; exact e ▸ hx, fun hx => ⟨_, hx, by simp⟩⟩)
  generalize idxGo (fun o => decide (o = (v1, v2))) 0 h = r at *
  unfold eVal at *
  go_enter Try.func74, Try.ntmps74
  go_wp2_with fail
  refine (unhide C).mono ?_
  rintro e w1 ⟨rfl, hb1⟩
  go_wp2
  go_ret
  exact ⟨ret_bool HA.out, hb0.trans (hb1.mono hb0.size)⟩

/-! ### around. -/
def tryGo (g : Int → Option (List Int)) : Nat → Int → Option (List Int)
  | 0, _ => none
  | k + 1, d => match g d with
    | some L => some L
    | none => tryGo g k (d + 1)
def nextB (E : List (Int × Int)) (way : List Int) (d : Int) : Bool := decide ((way.getLastD 0, d) ∈ E) && !decide (d ∈ way)
def roundGo (E : List (Int × Int)) : Nat → List Int → Option (List Int)
  | 0, way => if (way.getLastD 0, way.headD 0) ∈ E then some way else none
  | f + 1, way => tryGo (fun d => if nextB E way d then roundGo E f (way ++ [d]) else none) 6 1
def WayPost (R : Option (List Int)) (w : World) (e : Ending) (w' : World) : Prop :=
  Below w.heap.size w w' ∧ ((R = none ∧ e = .returned (.slice none 0 0)) ∨ ∃ L a n c, R = some L ∧ e = .returned (.slice (some a) n c) ∧ Rd w' w'.heap.size 1 (some a) n (cellsI L))
theorem lastD_at {l : List Int} {n : Nat} {x : Int} (h : l[n]? = some x) (hl : l.length = n + 1) : l.getLastD 0 = x := by
  have h1 : l.getLast? = some x := by rw [List.getLast?_eq_getElem?, hl]; exact h
  rw [List.getLastD_eq_getLast?, h1]; rfl
theorem headD_at {l : List Int} {x : Int} (h : l[0]? = some x) : l.headD 0 = x := by
  cases l with
  | nil => simp at h
  | cons a t => simpa using h
theorem tryGo_step (g : Int → Option (List Int)) (k : Nat) (d : Int) : tryGo g (k + 1) d = match g d with | some L => some L | none => tryGo g k (d + 1) := rfl

set_option maxRecDepth 100000 in
set_option maxHeartbeats 4000000 in
theorem around_any (B : Option Addr) (m k : Nat) (E : List (Int × Int)) (many : Nat) (hmany : many ≤ 6) (hmE : m ≤ 9000000000000) : ∀ (f : Nat) (way : List Int) (a : Addr) (n c : Nat) (w : World), n + f = many → 0 < n →
    Rd w w.heap.size 1 (some a) n (cellsI way) → Rd w w.heap.size 2 B m (dcells E) →
    Calls Try.prog 44 #[.slice B m k, .slice (some a) n c, .int .i64 many] w (WayPost (roundGo E f way) w) := by
  intro f
  induction f with
  | zero =>
    intro way a n c w hnf hn hw hE
    obtain rfl : n = many := by omega
    obtain ⟨b, off, x, he, hb, hx, c0⟩ := hw.int (k := n - 1) (by omega)
    cases he
    obtain ⟨b', off', y, he, hb', hy, c1⟩ := hw.int (k := 0) (by omega)
    cases he
    have hlen := hw.ilen
    have HR : Hid (roundGo E 0 way = if (x, y) ∈ E then some way else none) := Lib.hid (by
      rw [roundGo, lastD_at hx (by omega), headD_at hy])
    have CC := hide (fun w1 (hb : Below w.heap.size w w1) => contains_edge B m k E (x, y) w1 ((hE.below hb).more hb.size) hmE)
    unfold eVal at CC
    simp only at CC
    have hi1 : (n : Int) - 1 = ((n - 1 : Nat) : Int) := by omega
    obtain ⟨q, hq⟩ : ∃ q, n = q + 1 := ⟨n - 1, by omega⟩
    subst hq
    rw [Nat.add_sub_cancel] at c0
    rw [Nat.add_zero] at c1
    clear hx hy hi1 hlen
    generalize roundGo E 0 way = R at *
    by_cases hmem : (x, y) ∈ E
    · have HF : Hid (R = some way) := Lib.hid (by rw [HR.out, if_pos hmem])
      rw [decide_eq_true hmem] at CC
      clear hmem HR
      go_enter Try.func44, Try.ntmps44
      go_wp2_with fail
      refine (unhide CC _ (Below.refl _ _)).mono ?_
      rintro e w1 ⟨rfl, hb1⟩
      go_wp2
      go_ret
      exact ⟨hb1, .inr ⟨way, _, _, _, HF.out, rfl, (hw.below hb1).more hb1.size⟩⟩
    · have HF : Hid (R = none) := Lib.hid (by rw [HR.out, if_neg hmem])
      rw [decide_eq_false hmem] at CC
      clear hmem HR
      go_enter Try.func44, Try.ntmps44
      go_wp2_with fail
      refine (unhide CC _ (Below.refl _ _)).mono ?_
      rintro e w1 ⟨rfl, hb1⟩
      go_wp2
      go_ret
      exact ⟨hb1, .inl ⟨HF.out, rfl⟩⟩
  | succ f ih =>
    intro way a n c w hnf hn hw hE
    obtain ⟨b, off, x, he, hb, hx, c0⟩ := hw.int (k := n - 1) (by omega)
    cases he
    have hlen := hw.ilen
    have HX := Lib.hid (lastD_at hx (by omega))
    obtain ⟨q, hq⟩ : ∃ q, n = q + 1 := ⟨n - 1, by omega⟩
    subst hq
    rw [Nat.add_sub_cancel] at c0
    have hnm : ((q : Int) + 1 == (many : Int)) = false := by simp; omega
    have hq5 : q ≤ 5 := by omega
    have hnm2 : (q + 1 == many) = false := by simp; omega
    have hnm3 : decide (q + 1 = many) = false := by simp; omega
    have HR : Hid (roundGo E (f + 1) way = tryGo (fun d => if nextB E way d then roundGo E f (way ++ [d]) else none) 6 1) := Lib.hid (by rw [roundGo])
    have HIH := hide ih
    have CC := hide (fun w1 (d : Int) (hb : Below w.heap.size w w1) => contains_edge B m k E (x, d) w1 ((hE.below hb).more hb.size) hmE)
    have CI := hide (fun w1 (d : Int) (hb : Below w.heap.size w w1) => icontains_rd (some ⟨b, off, none⟩) (q + 1) c way d w1 _ (hw.below hb) (by omega))
    have CL := hide (fun w1 (hb : Below w.heap.size w w1) => clone_int (some ⟨b, off, none⟩) (q + 1) c (cellsI way) w1 ((hw.below hb).more hb.size) (oneI _) (by omega))
    unfold eVal at CC
    simp only at CC
    have hnq := fun (w : World) (a : Option Addr) (n c : Nat) => run_neq_slice_nil_any (P := Try.prog) w 31 3 a n c 0 0 Try.underlying31
    have HNF := Lib.hid hnf
    clear ih hx hlen hnf
    generalize roundGo E (f + 1) way = R at *
    go_enter Try.func44, Try.ntmps44
    go_wp2
    clear hnm hnm2 hnm3
    go_loopw [8] (fun s8 wr => ∃ d r : Nat, 1 ≤ d ∧ d + r = 7 ∧ s8 = .int .i64 d ∧ Hid (R = tryGo (fun d => if nextB E way d then roundGo E f (way ++ [d]) else none) r d) ∧ Below w.heap.size w wr) (fun s8 _ => 7 - (intOf s8).toNat)
    case atStart => exact ⟨1, 6, by omega, by omega, rfl, HR, Below.refl _ _⟩
    case round =>
      obtain ⟨d, r, hd1, hd7, rfl, HE, hbw⟩ := hrel
      by_cases hd : d ≤ 6
      · obtain ⟨r', rfl⟩ : ∃ r', r = r' + 1 := ⟨r - 1, by omega⟩
        have HE2 := Lib.hid (HE.out.trans (tryGo_step _ r' d))
        have HNB : Hid (nextB E way d = (decide ((x, (d : Int)) ∈ E) && !decide ((d : Int) ∈ way))) := Lib.hid (by unfold nextB; rw [HX.out])
        have CC2 := hide (unhide CC wr d hbw)
        clear HE
        by_cases h1 : (x, (d : Int)) ∈ E
        · by_cases h2 : (d : Int) ∈ way
          · have HE3 : Hid (R = tryGo (fun d => if nextB E way d then roundGo E f (way ++ [d]) else none) r' (d + 1 : Nat)) := Lib.hid (by rw [HE2.out, HNB.out, decide_eq_true h1, decide_eq_true h2]; rfl)
            have CI2 := hide (fun w1 hb => unhide CI w1 d hb)
            rw [decide_eq_true h1] at CC2
            rw [decide_eq_true h2] at CI2
            clear h1 h2 HE2 HNB
            go_wp2_with fail
            refine (unhide CC2).mono ?_
            rintro e w1 ⟨rfl, hb1⟩
            have hbw1 := hbw.trans (hb1.mono hbw.size)
            go_wp2_with fail
            refine (unhide CI2 _ hbw1).mono ?_
            rintro e w' ⟨rfl, rfl⟩
            go_wp2
            go_roundw
            case rel => exact ⟨d + 1, r', by omega, by omega, by go_num, HE3, hbw1⟩
            case measure => simp [intOf]; omega
          · have HNB2 : Hid (nextB E way d = true) := Lib.hid (by rw [HNB.out, decide_eq_true h1, decide_eq_false h2]; rfl)
            have HE3 : Hid (R = match roundGo E f (way ++ [(d : Int)]) with | some L => some L | none => tryGo (fun d => if nextB E way d then roundGo E f (way ++ [d]) else none) r' ((d : Int) + 1)) := Lib.hid (by rw [HE2.out]; simp only [HNB2.out, if_true])
            have CI2 := hide (fun w1 hb => unhide CI w1 d hb)
            rw [decide_eq_true h1] at CC2
            rw [decide_eq_false h2] at CI2
            clear h1 h2 HE2 HNB HNB2
            go_wp2_with fail
            refine (unhide CC2).mono ?_
            rintro e w1 ⟨rfl, hb1⟩
            have hbw1 := hbw.trans (hb1.mono hbw.size)
            go_wp2_with fail
            refine (unhide CI2 _ hbw1).mono ?_
            rintro e w' ⟨rfl, rfl⟩
            have CL2 := hide (unhide CL w1 hbw1)
            go_wp2_with fail
            refine (unhide CL2).mono ?_
            rintro e w2 ⟨v2, rfl, ho2, hb2⟩
            obtain ⟨A2, c2, rfl⟩ := own_slice ho2
            have hbw2 := hbw1.trans (hb2.mono hbw1.size)
            have hz2 : w1.heap.size ≤ w2.heap.size := hb2.size
            clear CC2 CI2 CL2 hb1 hb2
            go_wp2_with (at_builtin; (refine wpList_app rfl (.tmp 45) (.tmp 47) _ rfl w1.heap.size slt_ints (n := q + 1) (xs := cellsI way) (m := 1) (news := cellsI [(d : Int)]) rfl (own_alloc ho2 _) rfl (rd_new' _ _ (cellsI [(d : Int)]) (by simp) rfl) (oneI _) (by omega) (by simp; omega) ?_; intro v5 w5 hown5 hg5 hb5 hat5 hne5; obtain ⟨A5, c5, rfl⟩ := own_slice hown5))
            have e1 : cellsI way ++ cellsI [(d : Int)] = cellsI (way ++ [(d : Int)]) := by simp [cellsI]
            rw [e1] at hown5
            have hbw5 := (hbw2.alloc hbw2.size (.cells (cellsI [(d : Int)]).toArray 3)).trans (hb5.mono hbw1.size)
            rcases own_some hown5 with ⟨_, h0, _⟩ | ⟨g5, rfl, _⟩
            · omega
            have CR := hide (unhide HIH (way ++ [(d : Int)]) ⟨g5, 0, none⟩ (q + 1 + 1) c5 w5 (by have := HNF.out; omega) (by omega) (rd_own hown5) ((hE.below hbw5).more hbw5.size))
            clear e1 hg5 hat5 hne5 ho2 hbw2 hb5 hown5
            refine (unhide CR).mono ?_
            rintro e w6 ⟨hb6, hcs⟩
            have hbw6 := hbw5.trans (hb6.mono hbw5.size)
            rcases hcs with ⟨hnone, rfl⟩ | ⟨L, a6, n6, c6, hsome, rfl, hd6⟩
            · have HE4 : Hid (R = tryGo (fun d => if nextB E way d then roundGo E f (way ++ [d]) else none) r' (d + 1 : Nat)) := Lib.hid (by rw [HE3.out, hnone]; rfl)
              clear hnone HE3 CR
              go_wp2
              go_roundw
              case rel => exact ⟨d + 1, r', by omega, by omega, by go_num, HE4, hbw6⟩
              case measure => simp [intOf]; omega
            · have HE4 : Hid (R = some L) := Lib.hid (by rw [HE3.out, hsome])
              clear hsome HE3 CR
              go_wp2
              go_ret
              exact ⟨hbw6, .inr ⟨L, _, _, _, HE4.out, rfl, hd6⟩⟩
        · have HE3 : Hid (R = tryGo (fun d => if nextB E way d then roundGo E f (way ++ [d]) else none) r' (d + 1 : Nat)) := Lib.hid (by rw [HE2.out, HNB.out, decide_eq_false h1]; rfl)
          rw [decide_eq_false h1] at CC2
          clear h1 HE2 HNB
          go_wp2_with fail
          refine (unhide CC2).mono ?_
          rintro e w1 ⟨rfl, hb1⟩
          have hbw1 := hbw.trans (hb1.mono hbw.size)
          go_wp2
          go_roundw
          case rel => exact ⟨d + 1, r', by omega, by omega, by go_num, HE3, hbw1⟩
          case measure => simp [intOf]; omega
      · obtain rfl : r = 0 := by omega
        have HE4 : Hid (R = none) := Lib.hid (by rw [HE.out]; rfl)
        clear HE
        go_wp2
        go_ret
        exact ⟨hbw, .inl ⟨HE4.out, rfl⟩⟩
end Go.Proofs.Ytkpnpkikonlmpaa
