
/-
  CONTRACT of the reference's laneref1.Ring: a ring of so many, that goes on from a beginning.
-/
import Derived.Test.YtecfgepomcnenaaDoorRMat
import Derived.Test.YtecfgepomcnenaaDoorGraphR
namespace Go.Proofs.YtecfgepomcnenaaDoor
open Go.RowKit

def rnextB (E : List (Int × Int)) (way : List Int) (d : Int) : Bool := !decide (d ∈ way) && (way.isEmpty || decide ((way.getLastD 0, d) ∈ E))
def rringGo (E : List (Int × Int)) : Nat → List Int → Option (List Int)
  | 0, way => if (way.getLastD 0, way.headD 0) ∈ E then some way else none
  | f + 1, way => tryGo (fun d => if rnextB E way d then rringGo E f (way ++ [d]) else none) 6 1
def RWayPost (R : Option (List Int)) (w : World) (e : Ending) (w' : World) : Prop :=
  Below w.heap.size w w' ∧ ((R = none ∧ ∃ v, e = .returned (.tuple #[v, .bool false])) ∨ ∃ L A n c, R = some L ∧ e = .returned (.tuple #[.slice A n c, .bool true]) ∧ Rd w' w'.heap.size 1 A n (cellsI L))
theorem rringGo_0 (E : List (Int × Int)) (way : List Int) : rringGo E 0 way = if (way.getLastD 0, way.headD 0) ∈ E then some way else none := by rw [rringGo]
theorem rringGo_s (E : List (Int × Int)) (f : Nat) (way : List Int) : rringGo E (f + 1) way = tryGo (fun d => if rnextB E way d then rringGo E f (way ++ [d]) else none) 6 1 := by rw [rringGo]

theorem tryGo_zero (g : Int → Option (List Int)) (d : Int) : tryGo g 0 d = none := rfl
attribute [local irreducible] rringGo rnextB tryGo
set_option maxRecDepth 100000 in
set_option maxHeartbeats 4000000 in
theorem rring_any (B : Option Addr) (m k : Nat) (E : List (Int × Int)) (many : Nat) (hmany : many ≤ 6) (hmany1 : 1 ≤ many) (hmE : m ≤ 9000000000000) (hok : okE E) : ∀ (f : Nat) (way : List Int) (A : Option Addr) (n c : Nat) (w : World), n + f = many →
    (∀ x ∈ way, 1 ≤ x ∧ x ≤ 6) → Rd w w.heap.size 1 A n (cellsI way) → Rd w w.heap.size 2 B m (dcells E) →
    Calls Tryd.prog 23 #[.slice B m k, .slice A n c, .int .i64 many] w (RWayPost (rringGo E f way) w) := by
  intro f
  induction f with
  | zero =>
    intro way A n c w hnf hway hw hE
    obtain rfl : n = many := by omega
    obtain ⟨b, off, x, he, hb, hx, c0⟩ := hw.int (k := n - 1) (by omega)
    cases he
    obtain ⟨b', off', y, he, hb', hy, c1⟩ := hw.int (k := 0) (by omega)
    cases he
    have hlen := hw.ilen
    obtain ⟨xn, rfl⟩ : ∃ a : Nat, x = a := ⟨x.toNat, by have := hway _ (List.mem_of_getElem? hx); omega⟩
    obtain ⟨yn, rfl⟩ : ∃ a : Nat, y = a := ⟨y.toNat, by have := hway _ (List.mem_of_getElem? hy); omega⟩
    have hx6 : xn ≤ 6 := by have := hway _ (List.mem_of_getElem? hx); omega
    have hy6 : yn ≤ 6 := by have := hway _ (List.mem_of_getElem? hy); omega
    have HR : Hid (rringGo E 0 way = if ((xn : Int), (yn : Int)) ∈ E then some way else none) := Lib.hid (by
      rw [rringGo_0, lastD_at hx (by omega), headD_at hy])
    have HLE := Lib.hid hE.dlen
    have HOK := Lib.hid hok
    obtain ⟨q, hq⟩ : ∃ q, n = q + 1 := ⟨n - 1, by omega⟩
    subst hq
    rw [Nat.add_sub_cancel] at c0
    rw [Nat.add_zero] at c1
    have hT0 := Blk.new w 55 ((List.replicate 49 false).map .bool)
    have hbw0 := (Below.refl w.heap.size w).alloc (Nat.le_refl _) (.cells ((List.replicate 49 false).map Value.bool).toArray 55)
    have hEw := hide (fun wr (hb : Below w.heap.size w wr) => hE.below hb)
    have hWw := hide (fun wr (hb : Below w.heap.size w wr) => hw.below hb)
    have HG : Hid (w.heap.size = w.heap.size) := Lib.hid rfl
    generalize rringGo E 0 way = R at *
    clear hx hy hlen hok hnf hway
    go_enter Tryd.func23, Tryd.ntmps23
    go_wp2
    generalize hgg : w.heap.size = g at *
    go_loopw [9] (fun s9 wr => ∃ i : Nat, i ≤ m ∧ s9 = .int .i64 i ∧ Blk wr g 55 ((matL (E.take i)).map .bool) ∧ Below g w wr) (fun s9 _ => m - (intOf s9).toNat)
    case atStart => exact ⟨0, Nat.zero_le _, rfl, hT0, hbw0⟩
    case round =>
      clear hT0 hbw0
      obtain ⟨i, hi, rfl, hT, hbw⟩ := hrel
      by_cases hlt : i < m
      · obtain ⟨be, oe, e, he, hbe, ho, q0, q1⟩ := (unhide hEw wr hbw).pr (k := i) hlt
        cases he
        obtain ⟨x, y⟩ := e
        simp only at q0 q1
        obtain ⟨a, b, rfl, rfl, ha1, ha6, hb1, hb6⟩ := okE_nat HOK.out ho
        have HM := Lib.hid (mat_set (E.take i) ha6 hb6)
        have HS := Lib.hid (take_snoc ho)
        have hTd : Blk wr.drew g 55 ((matL (E.take i)).map .bool) := hT
        have hlT := hTd.lt
        have fT := hTd.frozen (a * 7 + b)
        have sT := hTd.cellS (i := a * 7 + b) (v := .bool (decide (((a : Int), (b : Int)) ∈ E.take i))) (by rw [List.getElem?_map, mat_at _ ha6 hb6]; rfl)
        have ja0 : (0 : Int) ≤ (a : Int) := by omega
        have ja7 : (a : Int) < 7 := by omega
        have jb0 : (0 : Int) ≤ (b : Int) := by omega
        have jb7 : (b : Int) < 7 := by omega
        go_wp2
        go_still_tail 12, (by kernel_rfl)
        change wpList _ _ _ _ _ wr.drew
        have hT2 := hTd.put (a * 7 + b) (.bool true)
        rw [← List.map_set, HM.out, ← HS.out] at hT2
        have hbw2 := (show Below g w wr.drew from hbw.drew).setCell (p := ⟨g, a * 7 + b, none⟩) (Nat.le_refl g) (.bool true)
        go_wp2
        go_roundw
        case rel => exact ⟨i + 1, by omega, by go_num, hT2, hbw2⟩
        case measure => simp [intOf]; omega
      · rw [List.take_of_length_le (by rw [HLE.out]; omega)] at hT
        have hlT := hT.lt
        have d0 := (hbw.cell (p := ⟨b, off + q, none⟩) hb).trans c0
        have d1 := (hbw.cell (p := ⟨b, off, none⟩) hb).trans c1
        have sT := hT.cellS (i := xn * 7 + yn) (v := .bool (decide (((xn : Int), (yn : Int)) ∈ E))) (by rw [List.getElem?_map, mat_at _ hx6 hy6]; rfl)
        have ja0 : (0 : Int) ≤ (xn : Int) := by omega
        have ja7 : (xn : Int) < 7 := by omega
        have jb0 : (0 : Int) ≤ (yn : Int) := by omega
        have jb7 : (yn : Int) < 7 := by omega
        go_wp2
        go_quiet (fail)
        go_wp2
        go_ret2
        refine ⟨by rw [hgg]; exact below_drewN hbw _, ?_⟩
        by_cases hmem : ((xn : Int), (yn : Int)) ∈ E
        · exact .inr ⟨way, _, _, _, by rw [HR.out, if_pos hmem], by rw [decide_eq_true hmem]; rfl, by
            have h1 := ((unhide hWw wr hbw).more (by rw [← hgg]; exact hbw.size))
            exact h1⟩
        · exact .inl ⟨by rw [HR.out, if_neg hmem], _, by rw [decide_eq_false hmem]; rfl⟩
  | succ f ih =>
    intro way A n c w hnf hway hw hE
    rcases Nat.eq_zero_or_pos n with h0 | h0
    · subst h0
      obtain rfl : way = [] := List.eq_nil_of_length_eq_zero hw.ilen
      have HR : Hid (rringGo E (f + 1) ([] : List Int) = tryGo (fun d => if rnextB E ([] : List Int) d then rringGo E f (([] : List Int) ++ [d]) else none) 6 1) := Lib.hid (rringGo_s E f [])
      have HLE := Lib.hid hE.dlen
      have HLW := Lib.hid hw.ilen
      have HOK := Lib.hid hok
      have HIH := hide ih
      have HNF := Lib.hid hnf
      have HWAY := Lib.hid hway
      have hnm : ((0 : Int) == (many : Int)) = false := by simp; omega
      have hT0 := Blk.new w 55 ((List.replicate 49 false).map .bool)
      have hbw0 := (Below.refl w.heap.size w).alloc (Nat.le_refl _) (.cells ((List.replicate 49 false).map Value.bool).toArray 55)
      have hEw := hide (fun wr (hb : Below w.heap.size w wr) => hE.below hb)
      have hWw := hide (fun wr (hb : Below w.heap.size w wr) => hw.below hb)
      have HG : Hid (w.heap.size = w.heap.size) := Lib.hid rfl
      clear hway
      generalize rringGo E (f + 1) ([] : List Int) = R at *
      clear hok hnf ih
      go_enter Tryd.func23, Tryd.ntmps23
      go_wp2
      generalize hgg : w.heap.size = g at *
      go_loopw [9] (fun s9 wr => ∃ i : Nat, i ≤ m ∧ s9 = .int .i64 i ∧ Blk wr g 55 ((matL (E.take i)).map .bool) ∧ Below g w wr) (fun s9 _ => m - (intOf s9).toNat)
      case atStart => exact ⟨0, Nat.zero_le _, rfl, hT0, hbw0⟩
      case round =>
        clear hT0 hbw0
        obtain ⟨i, hi, rfl, hT, hbw⟩ := hrel
        by_cases hlt : i < m
        · obtain ⟨be, oe, e, he, hbe, ho, q0, q1⟩ := (unhide hEw wr hbw).pr (k := i) hlt
          cases he
          obtain ⟨x, y⟩ := e
          simp only at q0 q1
          obtain ⟨a, b, rfl, rfl, ha1, ha6, hb1, hb6⟩ := okE_nat HOK.out ho
          have HM := Lib.hid (mat_set (E.take i) ha6 hb6)
          have HS := Lib.hid (take_snoc ho)
          have hTd : Blk wr.drew g 55 ((matL (E.take i)).map .bool) := hT
          have hlT := hTd.lt
          have fT := hTd.frozen (a * 7 + b)
          have sT := hTd.cellS (i := a * 7 + b) (v := .bool (decide (((a : Int), (b : Int)) ∈ E.take i))) (by rw [List.getElem?_map, mat_at _ ha6 hb6]; rfl)
          have ja0 : (0 : Int) ≤ (a : Int) := by omega
          have ja7 : (a : Int) < 7 := by omega
          have jb0 : (0 : Int) ≤ (b : Int) := by omega
          have jb7 : (b : Int) < 7 := by omega
          go_wp2
          go_still_tail 12, (by kernel_rfl)
          change wpList _ _ _ _ _ wr.drew
          have hT2 := hTd.put (a * 7 + b) (.bool true)
          rw [← List.map_set, HM.out, ← HS.out] at hT2
          have hbw2 := (show Below g w wr.drew from hbw.drew).setCell (p := ⟨g, a * 7 + b, none⟩) (Nat.le_refl g) (.bool true)
          go_wp2
          go_roundw
          case rel => exact ⟨i + 1, by omega, by go_num, hT2, hbw2⟩
          case measure => simp [intOf]; omega
        · rw [List.take_of_length_le (by rw [HLE.out]; omega)] at hT
          go_wp2
          go_loopw [10] (fun s10 wr => ∃ d r : Nat, 1 ≤ d ∧ d + r = 7 ∧ s10 = .int .i64 d ∧ Hid (R = tryGo (fun d => if rnextB E ([] : List Int) d then rringGo E f (([] : List Int) ++ [d]) else none) r d) ∧ Blk wr g 55 ((matL E).map .bool) ∧ Below g w wr) (fun s10 _ => 7 - (intOf s10).toNat)
          case atStart => exact ⟨1, 6, by omega, by omega, rfl, HR, hT, hbw⟩
          case round =>
            clear hT hbw
            obtain ⟨d, r, hd1, hd7, rfl, HE, hT, hbw⟩ := hrel
            by_cases hd : d ≤ 6
            · obtain ⟨r', rfl⟩ : ∃ r', r = r' + 1 := ⟨r - 1, by omega⟩
              have HE2 := Lib.hid (HE.out.trans (tryGo_step _ r' d))
              have hgz : g ≤ wr.heap.size := by rw [← hgg]; exact hbw.size
              have hlT : g + 1 ≤ wr.heap.size := hT.lt
              have TI := hide (rin_any A 0 c [] d wr _ (unhide hWw wr hbw) (by omega))
              rw [show decide ((d : Int) ∈ ([] : List Int)) = false by simp] at TI
              have HNB : Hid (rnextB E [] d = true) := Lib.hid (by unfold rnextB; rfl)
              clear HE
              go_wp2_with fail
              refine (unhide TI).mono ?_
              rintro e w' ⟨rfl, rfl⟩
              have HE3 : Hid (R = match rringGo E f (([] : List Int) ++ [(d : Int)]) with | some L => some L | none => tryGo (fun d => if rnextB E ([] : List Int) d then rringGo E f (([] : List Int) ++ [d]) else none) r' ((d : Int) + 1)) := Lib.hid (by rw [HE2.out]; simp only [HNB.out, if_true]; rfl)
              clear HE2 HNB
              go_wp2_with (first
                | (at_builtin; (refine wpList_app rfl (.tmp 75) (.tmp 76) _ rfl (g + 1) slt_ints (n := 0) (xs := []) (m := 0) (news := cellsI ([] : List Int)) rfl (World.ownsRow_nil _ _ _ _) rfl ((unhide hWw wr hbw).more hgz) (oneI _) (by omega) hlT ?_; intro v5 w5 hown5 hg5 hb5 hat5 hne5; simp only [Nat.zero_add, List.nil_append] at hown5; obtain ⟨A5, c5, rfl⟩ := own_slice hown5; have hT5 := hT.below hb5 (Nat.lt_succ_self g); have hbw5 := hbw.trans (hb5.mono (Nat.le_succ g)); have hz5 := hT5.lt))
                | (at_builtin; (refine wpList_app rfl (.tmp 78) (.tmp 80) _ rfl (g + 1) slt_ints (n := 0) (xs := cellsI ([] : List Int)) (m := 1) (news := cellsI [(d : Int)]) rfl (own_alloc hown5 _) rfl (rd_new' _ _ (cellsI [(d : Int)]) (by simp) rfl) (oneI _) (by omega) (by simp; omega) ?_; intro v6 w6 hown6 hg6 hb6 hat6 hne6; obtain ⟨A6, c6, rfl⟩ := own_slice hown6)))
              have hT6 := (hT5.alloc (.cells (cellsI [(d : Int)]).toArray 3)).below hb6 (Nat.lt_succ_self g)
              have hbw6 := (hbw5.alloc (by omega) (.cells (cellsI [(d : Int)]).toArray 3)).trans (hb6.mono (Nat.le_succ g))
              have e1 : cellsI ([] : List Int) ++ cellsI [(d : Int)] = cellsI (([] : List Int) ++ [(d : Int)]) := by simp [cellsI]
              rw [e1] at hown6
              have hz6 := hT6.lt
              have CR := hide (unhide HIH (([] : List Int) ++ [(d : Int)]) A6 (0 + 1) c6 w6 (by have := HNF.out; omega) (by
                intro z hz
                rcases List.mem_append.1 hz with h | h
                · exact HWAY.out z h
                · rw [List.mem_singleton.1 h]; omega) (rd_own hown6) ((unhide hEw w6 hbw6).more (by omega)))
              clear e1 hg6 hat6 hne6 hg5 hat5 hne5 hb5 hb6 hown5 hown6 hT5 hbw5 hz5
              refine (unhide CR).mono ?_
              rintro e w7 ⟨hb7, hcs⟩
              have hbw7 := hbw6.trans (hb7.mono (by omega))
              have hT7 := hT6.below hb7 hT6.lt
              rcases hcs with ⟨hnone, v7, rfl⟩ | ⟨L, A7, n7, c7, hsome, rfl, hd7⟩
              · have HE4 : Hid (R = tryGo (fun d => if rnextB E ([] : List Int) d then rringGo E f (([] : List Int) ++ [d]) else none) r' (d + 1 : Nat)) := Lib.hid (by rw [HE3.out, hnone]; rfl)
                clear hnone HE3 CR
                go_wp2
                go_roundw
                case rel => exact ⟨d + 1, r', by omega, by omega, by go_num, HE4, hT7, hbw7⟩
                case measure => simp [intOf]; omega
              · have HE4 : Hid (R = some L) := Lib.hid (by rw [HE3.out, hsome])
                clear hsome HE3 CR
                go_wp2
                go_ret2
                exact ⟨by rw [hgg]; exact hbw7, .inr ⟨L, _, _, _, HE4.out, rfl, hd7⟩⟩
            · obtain rfl : r = 0 := by omega
              have HF : Hid (R = none) := Lib.hid (HE.out.trans (tryGo_zero _ _))
              clear HE
              go_wp2
              go_ret2
              exact ⟨by rw [hgg]; exact hbw, .inl ⟨HF.out, _, rfl⟩⟩
    · obtain ⟨q, rfl⟩ : ∃ q, n = q + 1 := ⟨n - 1, by omega⟩
      have HR : Hid (rringGo E (f + 1) way = tryGo (fun d => if rnextB E way d then rringGo E f (way ++ [d]) else none) 6 1) := Lib.hid (rringGo_s E f way)
      have HLE := Lib.hid hE.dlen
      have HLW := Lib.hid hw.ilen
      have HOK := Lib.hid hok
      have HIH := hide ih
      have HNF := Lib.hid hnf
      have HWAY := Lib.hid hway
      have hnm : (((q + 1 : Nat) : Int) == (many : Int)) = false := by simp; omega
      have hnm2 : (((q : Int) + 1) == (many : Int)) = false := by simp; omega
      have hn5 : q + 1 ≤ 5 := by omega
      have hT0 := Blk.new w 55 ((List.replicate 49 false).map .bool)
      have hbw0 := (Below.refl w.heap.size w).alloc (Nat.le_refl _) (.cells ((List.replicate 49 false).map Value.bool).toArray 55)
      have hEw := hide (fun wr (hb : Below w.heap.size w wr) => hE.below hb)
      have hWw := hide (fun wr (hb : Below w.heap.size w wr) => hw.below hb)
      have HG : Hid (w.heap.size = w.heap.size) := Lib.hid rfl
      clear hway
      generalize rringGo E (f + 1) way = R at *
      clear hok hnf ih
      go_enter Tryd.func23, Tryd.ntmps23
      go_wp2
      generalize hgg : w.heap.size = g at *
      go_loopw [9] (fun s9 wr => ∃ i : Nat, i ≤ m ∧ s9 = .int .i64 i ∧ Blk wr g 55 ((matL (E.take i)).map .bool) ∧ Below g w wr) (fun s9 _ => m - (intOf s9).toNat)
      case atStart => exact ⟨0, Nat.zero_le _, rfl, hT0, hbw0⟩
      case round =>
        clear hT0 hbw0
        obtain ⟨i, hi, rfl, hT, hbw⟩ := hrel
        by_cases hlt : i < m
        · obtain ⟨be, oe, e, he, hbe, ho, q0, q1⟩ := (unhide hEw wr hbw).pr (k := i) hlt
          cases he
          obtain ⟨x, y⟩ := e
          simp only at q0 q1
          obtain ⟨a, b, rfl, rfl, ha1, ha6, hb1, hb6⟩ := okE_nat HOK.out ho
          have HM := Lib.hid (mat_set (E.take i) ha6 hb6)
          have HS := Lib.hid (take_snoc ho)
          have hTd : Blk wr.drew g 55 ((matL (E.take i)).map .bool) := hT
          have hlT := hTd.lt
          have fT := hTd.frozen (a * 7 + b)
          have sT := hTd.cellS (i := a * 7 + b) (v := .bool (decide (((a : Int), (b : Int)) ∈ E.take i))) (by rw [List.getElem?_map, mat_at _ ha6 hb6]; rfl)
          have ja0 : (0 : Int) ≤ (a : Int) := by omega
          have ja7 : (a : Int) < 7 := by omega
          have jb0 : (0 : Int) ≤ (b : Int) := by omega
          have jb7 : (b : Int) < 7 := by omega
          go_wp2
          go_still_tail 12, (by kernel_rfl)
          change wpList _ _ _ _ _ wr.drew
          have hT2 := hTd.put (a * 7 + b) (.bool true)
          rw [← List.map_set, HM.out, ← HS.out] at hT2
          have hbw2 := (show Below g w wr.drew from hbw.drew).setCell (p := ⟨g, a * 7 + b, none⟩) (Nat.le_refl g) (.bool true)
          go_wp2
          go_roundw
          case rel => exact ⟨i + 1, by omega, by go_num, hT2, hbw2⟩
          case measure => simp [intOf]; omega
        · rw [List.take_of_length_le (by rw [HLE.out]; omega)] at hT
          obtain ⟨b, off, x, he, hb, hx, c0⟩ := (unhide hWw w (Below.refl _ _)).int (k := q) (by omega)
          cases he
          obtain ⟨xn, rfl⟩ : ∃ a : Nat, x = a := ⟨x.toNat, by have := HWAY.out _ (List.mem_of_getElem? hx); omega⟩
          have hx6 : xn ≤ 6 := by have := HWAY.out _ (List.mem_of_getElem? hx); omega
          have HX := Lib.hid (lastD_at hx HLW.out)
          have HNE : Hid (way.isEmpty = false) := Lib.hid (by
            cases way with
            | nil => exact absurd HLW.out (by simp)
            | cons _ _ => rfl)
          have ja0 : (0 : Int) ≤ (xn : Int) := by omega
          have ja7 : (xn : Int) < 7 := by omega
          clear hx
          go_wp2
          go_loopw [10] (fun s10 wr => ∃ d r : Nat, 1 ≤ d ∧ d + r = 7 ∧ s10 = .int .i64 d ∧ Hid (R = tryGo (fun d => if rnextB E way d then rringGo E f (way ++ [d]) else none) r d) ∧ Blk wr g 55 ((matL E).map .bool) ∧ Below g w wr) (fun s10 _ => 7 - (intOf s10).toNat)
          case atStart => exact ⟨1, 6, by omega, by omega, rfl, HR, hT, hbw⟩
          case round =>
            clear hT hbw
            obtain ⟨d, r, hd1, hd7, rfl, HE, hT, hbw⟩ := hrel
            by_cases hd : d ≤ 6
            · obtain ⟨r', rfl⟩ : ∃ r', r = r' + 1 := ⟨r - 1, by omega⟩
              have HE2 := Lib.hid (HE.out.trans (tryGo_step _ r' d))
              have hgz : g ≤ wr.heap.size := by rw [← hgg]; exact hbw.size
              have hlT : g + 1 ≤ wr.heap.size := hT.lt
              have TI := hide (rin_any (some ⟨b, off, none⟩) (q + 1) c way d wr _ (unhide hWw wr hbw) (by omega))
              clear HE
              by_cases hin : (d : Int) ∈ way
              · have HNB : Hid (rnextB E way d = false) := Lib.hid (by unfold rnextB; rw [decide_eq_true hin]; rfl)
                have HE3 : Hid (R = tryGo (fun d => if rnextB E way d then rringGo E f (way ++ [d]) else none) r' (d + 1 : Nat)) := Lib.hid (by rw [HE2.out, HNB.out]; rfl)
                rw [decide_eq_true hin] at TI
                clear hin HE2 HNB
                go_wp2_with fail
                refine (unhide TI).mono ?_
                rintro e w' ⟨rfl, rfl⟩
                go_wp2
                go_roundw
                case rel => exact ⟨d + 1, r', by omega, by omega, by go_num, HE3, hT, hbw⟩
                case measure => simp [intOf]; omega
              · rw [decide_eq_false hin] at TI
                have d0 := (hbw.cell (p := ⟨b, off + q, none⟩) hb).trans c0
                have sT := hT.cellS (i := xn * 7 + d) (v := .bool (decide (((xn : Int), (d : Int)) ∈ E))) (by rw [List.getElem?_map, mat_at _ hx6 hd]; rfl)
                have jb0 : (0 : Int) ≤ (d : Int) := by omega
                have jb7 : (d : Int) < 7 := by omega
                by_cases hmem : ((xn : Int), (d : Int)) ∈ E
                · have HNB : Hid (rnextB E way d = true) := Lib.hid (by unfold rnextB; rw [decide_eq_false hin, HNE.out, HX.out, decide_eq_true hmem]; rfl)
                  rw [decide_eq_true hmem] at sT
                  clear hin hmem
                  go_wp2_with fail
                  refine (unhide TI).mono ?_
                  rintro e w' ⟨rfl, rfl⟩
                  have HE3 : Hid (R = match rringGo E f (way ++ [(d : Int)]) with | some L => some L | none => tryGo (fun d => if rnextB E way d then rringGo E f (way ++ [d]) else none) r' ((d : Int) + 1)) := Lib.hid (by rw [HE2.out]; simp only [HNB.out, if_true]; rfl)
                  clear HE2 HNB
                  go_wp2_with (first
                    | (at_builtin; (refine wpList_app rfl (.tmp 75) (.tmp 76) _ rfl (g + 1) slt_ints (n := 0) (xs := []) (m := (q + 1)) (news := cellsI way) rfl (World.ownsRow_nil _ _ _ _) rfl ((unhide hWw wr hbw).more hgz) (oneI _) (by omega) hlT ?_; intro v5 w5 hown5 hg5 hb5 hat5 hne5; simp only [Nat.zero_add, List.nil_append] at hown5; obtain ⟨A5, c5, rfl⟩ := own_slice hown5; have hT5 := hT.below hb5 (Nat.lt_succ_self g); have hbw5 := hbw.trans (hb5.mono (Nat.le_succ g)); have hz5 := hT5.lt))
                    | (at_builtin; (refine wpList_app rfl (.tmp 78) (.tmp 80) _ rfl (g + 1) slt_ints (n := (q + 1)) (xs := cellsI way) (m := 1) (news := cellsI [(d : Int)]) rfl (own_alloc hown5 _) rfl (rd_new' _ _ (cellsI [(d : Int)]) (by simp) rfl) (oneI _) (by omega) (by simp; omega) ?_; intro v6 w6 hown6 hg6 hb6 hat6 hne6; obtain ⟨A6, c6, rfl⟩ := own_slice hown6)))
                  have hT6 := (hT5.alloc (.cells (cellsI [(d : Int)]).toArray 3)).below hb6 (Nat.lt_succ_self g)
                  have hbw6 := (hbw5.alloc (by omega) (.cells (cellsI [(d : Int)]).toArray 3)).trans (hb6.mono (Nat.le_succ g))
                  have e1 : cellsI way ++ cellsI [(d : Int)] = cellsI (way ++ [(d : Int)]) := by simp [cellsI]
                  rw [e1] at hown6
                  have hz6 := hT6.lt
                  have CR := hide (unhide HIH (way ++ [(d : Int)]) A6 ((q + 1) + 1) c6 w6 (by have := HNF.out; omega) (by
                    intro z hz
                    rcases List.mem_append.1 hz with h | h
                    · exact HWAY.out z h
                    · rw [List.mem_singleton.1 h]; omega) (rd_own hown6) ((unhide hEw w6 hbw6).more (by omega)))
                  clear e1 hg6 hat6 hne6 hg5 hat5 hne5 hb5 hb6 hown5 hown6 hT5 hbw5 hz5
                  refine (unhide CR).mono ?_
                  rintro e w7 ⟨hb7, hcs⟩
                  have hbw7 := hbw6.trans (hb7.mono (by omega))
                  have hT7 := hT6.below hb7 hT6.lt
                  rcases hcs with ⟨hnone, v7, rfl⟩ | ⟨L, A7, n7, c7, hsome, rfl, hd7⟩
                  · have HE4 : Hid (R = tryGo (fun d => if rnextB E way d then rringGo E f (way ++ [d]) else none) r' (d + 1 : Nat)) := Lib.hid (by rw [HE3.out, hnone]; rfl)
                    clear hnone HE3 CR
                    go_wp2
                    go_roundw
                    case rel => exact ⟨d + 1, r', by omega, by omega, by go_num, HE4, hT7, hbw7⟩
                    case measure => simp [intOf]; omega
                  · have HE4 : Hid (R = some L) := Lib.hid (by rw [HE3.out, hsome])
                    clear hsome HE3 CR
                    go_wp2
                    go_ret2
                    exact ⟨by rw [hgg]; exact hbw7, .inr ⟨L, _, _, _, HE4.out, rfl, hd7⟩⟩
                · have HNB : Hid (rnextB E way d = false) := Lib.hid (by unfold rnextB; rw [decide_eq_false hin, HNE.out, HX.out, decide_eq_false hmem]; rfl)
                  have HE3 : Hid (R = tryGo (fun d => if rnextB E way d then rringGo E f (way ++ [d]) else none) r' (d + 1 : Nat)) := Lib.hid (by rw [HE2.out, HNB.out]; rfl)
                  rw [decide_eq_false hmem] at sT
                  clear hin hmem HE2 HNB
                  go_wp2_with fail
                  refine (unhide TI).mono ?_
                  rintro e w' ⟨rfl, rfl⟩
                  go_wp2
                  go_roundw
                  case rel => exact ⟨d + 1, r', by omega, by omega, by go_num, HE3, hT, hbw⟩
                  case measure => simp [intOf]; omega
            · obtain rfl : r = 0 := by omega
              have HF : Hid (R = none) := Lib.hid (HE.out.trans (tryGo_zero _ _))
              clear HE
              go_wp2
              go_ret2
              exact ⟨by rw [hgg]; exact hbw, .inl ⟨HF.out, _, rfl⟩⟩

end Go.Proofs.YtecfgepomcnenaaDoor
