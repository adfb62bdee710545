
/-
  CONTRACT of the reference's laneref1.Sort: deals along edges, the least first; or it goes around.
-/
import Derived.Test.YtecfgepomcnenaaDoorRGraph
import Derived.Test.YtecfgepomcnenaaDoorGraphS
namespace Go.Proofs.YtecfgepomcnenaaDoor
open Go.RowKit

def stopE (deals out : List Int) (d : Int) (e : Int × Int) : Bool := decide (e.2 = d) && (decide (e.1 ∈ deals) && !decide (e.1 ∈ out))
def rokB (E : List (Int × Int)) (deals out : List Int) (d : Int) : Bool := !decide (d ∈ out) && !E.any (stopE deals out d)
def rbest (ok : Int → Bool) : Int → List Int → Int
  | b, [] => b
  | b, d :: t => rbest ok (if ok d = true ∧ (b = 0 ∨ d < b) then d else b) t
def rsortGo (E : List (Int × Int)) (deals : List Int) : Nat → List Int → Option (List Int)
  | 0, out => some out
  | f + 1, out => if rbest (rokB E deals out) 0 deals = 0 then none else rsortGo E deals f (out ++ [rbest (rokB E deals out) 0 deals])
def rsortF (E : List (Int × Int)) (deals : List Int) : Option (List Int) := rsortGo E deals deals.length []
def RSortPost (E : List (Int × Int)) (deals : List Int) (w : World) (e : Ending) (w' : World) : Prop :=
  ∃ v k r L, e = .returned (.tuple #[v, .bool r]) ∧ w'.ownsRow w.heap.size 3 1 v k (cellsI L) ∧ ((rsortF E deals = some L ∧ r = true) ∨ (rsortF E deals = none ∧ r = false ∧ L = [])) ∧ Below w.heap.size w w'
theorem rbest_step (ok : Int → Bool) {b d : Int} {l t : List Int} (h : l = d :: t) : rbest ok b l = rbest ok (if ok d = true ∧ (b = 0 ∨ d < b) then d else b) t := by rw [h, rbest]

set_option maxRecDepth 100000 in
set_option maxHeartbeats 4000000 in
theorem rsort_any (A : Option Addr) (n c : Nat) (deals : List Int) (B : Option Addr) (m k : Nat) (E : List (Int × Int)) (w : World) (hr : Rd w w.heap.size 1 A n (cellsI deals)) (hE : Rd w w.heap.size 2 B m (dcells E)) (hm : n ≤ 1000000) (hmE : m ≤ 9000000000000) :
    Calls Tryd.prog 20 #[.slice A n c, .slice B m k] w (RSortPost E deals w) := by
  have HL := Lib.hid hr.ilen
  have HLE := Lib.hid hE.dlen
  have HTF : Hid (rsortF E deals = rsortGo E deals (n - ([] : List Int).length) []) := Lib.hid (by unfold rsortF; rw [HL.out]; rfl)
  go_enter Tryd.func20, Tryd.ntmps20
  go_wp2
  go_loopw [6] (fun s6 wr => ∃ (out : List Int), wr.ownsRow w.heap.size 3 1 s6 out.length (cellsI out) ∧ out.length ≤ n ∧ Hid (rsortF E deals = rsortGo E deals (n - out.length) out) ∧ Below w.heap.size w wr) (fun s6 _ => n - lenV s6)
  case atStart => exact ⟨[], World.ownsRow_nil _ _ _ _, Nat.zero_le _, HTF, Below.refl _ _⟩
  case round =>
    clear HTF
    obtain ⟨out, ho6, hon, HT, hbw⟩ := hrel
    obtain ⟨A6, c6, rfl⟩ := own_slice ho6
    have hz := hbw.size
    by_cases hlt : out.length < n
    · obtain ⟨f, hf⟩ : ∃ f, n - out.length = f + 1 := ⟨n - out.length - 1, by omega⟩
      have HT2 : Hid (rsortF E deals = if rbest (rokB E deals out) 0 deals = 0 then none else rsortGo E deals f (out ++ [rbest (rokB E deals out) 0 deals])) := Lib.hid (by rw [HT.out, hf, rsortGo])
      have HF := Lib.hid hf
      have hrO := rd_own ho6
      have HOL := Lib.hid ho6
      have TO := hide (fun x => rin_any A6 out.length c6 out x wr _ hrO (by omega))
      have TD := hide (fun x => rin_any A n c deals x wr _ (hr.below hbw) (by omega))
      have HB0 : Hid (rbest (rokB E deals out) 0 deals = rbest (rokB E deals out) 0 (deals.drop 0)) := Lib.hid rfl
      generalize hbest : rbest (rokB E deals out) 0 deals = best at *
      generalize hqq : out.length = q at *
      have HQ := Lib.hid hqq
      clear HT hf hbest ho6 hrO hqq
      go_wp2
      go_loop [7, 8] (fun s7 s8 => ∃ (b : Int) (i : Nat), i ≤ n ∧ s7 = .int .i64 b ∧ s8 = .int .i64 i ∧ Hid (best = rbest (rokB E deals out) b (deals.drop i))) (fun _ s8 => n - (intOf s8).toNat)
      case atStart => exact ⟨0, 0, Nat.zero_le _, rfl, rfl, HB0⟩
      case round =>
        clear HB0
        obtain ⟨b, i, hi, rfl, rfl, HB⟩ := hrel
        by_cases hin : i < n
        · obtain ⟨bd, od, d, he, hbd, hd, d0⟩ := (hr.below hbw).int (k := i) (by omega)
          cases he
          have HB2 := Lib.hid (rbest_step (rokB E deals out) (b := b) (drop_at hd))
          clear hd
          have HK0 : Hid (rokB E deals out d = if (!decide (d ∈ out)) = true then !(E.drop 0).any (stopE deals out d) else false) := Lib.hid (by
            unfold rokB; rw [List.drop_zero]; cases decide (d ∈ out) <;> rfl)
          go_wp2_with fail
          refine (unhide TO _).mono ?_
          rintro e w' ⟨rfl, rfl⟩
          go_wp2
          go_loop [10, 11] (fun s10 s11 => ∃ (p : Bool) (j : Nat), j ≤ m ∧ s10 = .bool p ∧ s11 = .int .i64 j ∧ Hid (rokB E deals out d = if p = true then !(E.drop j).any (stopE deals out d) else false)) (fun _ s11 => m - (intOf s11).toNat)
          case atStart => exact ⟨_, 0, Nat.zero_le _, rfl, rfl, HK0⟩
          case round =>
            clear HK0
            obtain ⟨p, j, hj, rfl, rfl, HK⟩ := hrel
            cases p
            · have HK2 : Hid (rokB E deals out d = false) := Lib.hid HK.out
              have HB3 : Hid (best = rbest (rokB E deals out) b (deals.drop (i + 1))) := Lib.hid (by rw [HB.out, HB2.out, HK2.out, if_neg (by rintro ⟨h, _⟩; cases h)])
              clear HK HB2 HB
              by_cases hjm : j < m
              · go_wp2
                go_round
                case rel => exact ⟨b, i + 1, by omega, rfl, by go_num, HB3⟩
                case measure => simp [intOf]; omega
              · go_wp2
                go_round
                case rel => exact ⟨b, i + 1, by omega, rfl, by go_num, HB3⟩
                case measure => simp [intOf]; omega
            · by_cases hjm : j < m
              · obtain ⟨be, oe, e, he, hbe, ho, q0, q1⟩ := (hE.below hbw).pr (k := j) hjm
                cases he
                obtain ⟨x, y⟩ := e
                simp only at q0 q1
                have HO := Lib.hid (drop_at ho)
                have HS : Hid (stopE deals out d (x, y) = (decide (y = d) && (decide (x ∈ deals) && !decide (x ∈ out)))) := Lib.hid rfl
                clear ho
                by_cases hyd : y = d
                · subst hyd
                  have TO' := hide (unhide TO x)
                  have TD' := hide (unhide TD x)
                  generalize decide (x ∈ deals) = bd' at *
                  generalize decide (x ∈ out) = bo' at *
                  have t1 : (y == y) = true := by simp
                  cases bd'
                  · have HK2 : Hid (rokB E deals out y = if true = true then !(E.drop (j + 1)).any (stopE deals out y) else false) := Lib.hid (by
                      rw [HK.out, HO.out, List.any_cons, HS.out]; simp)
                    clear HK HS HO
                    go_wp2_with fail
                    refine (unhide TD' ).mono ?_
                    rintro e w' ⟨rfl, rfl⟩
                    go_wp2
                    go_round
                    case rel => exact ⟨true, j + 1, by omega, rfl, by go_num, HK2⟩
                    case measure => simp [intOf]; omega
                  · cases bo'
                    · have HK2 : Hid (rokB E deals out y = if false = true then !(E.drop (j + 1)).any (stopE deals out y) else false) := Lib.hid (by
                        rw [HK.out, HO.out, List.any_cons, HS.out]; simp)
                      clear HK HS HO
                      go_wp2_with fail
                      refine (unhide TD' ).mono ?_
                      rintro e w' ⟨rfl, rfl⟩
                      go_wp2_with fail
                      refine (unhide TO' ).mono ?_
                      rintro e w' ⟨rfl, rfl⟩
                      go_wp2
                      go_round
                      case rel => exact ⟨false, j + 1, by omega, rfl, by go_num, HK2⟩
                      case measure => simp [intOf]; omega
                    · have HK2 : Hid (rokB E deals out y = if true = true then !(E.drop (j + 1)).any (stopE deals out y) else false) := Lib.hid (by
                        rw [HK.out, HO.out, List.any_cons, HS.out]; simp)
                      clear HK HS HO
                      go_wp2_with fail
                      refine (unhide TD' ).mono ?_
                      rintro e w' ⟨rfl, rfl⟩
                      go_wp2_with fail
                      refine (unhide TO' ).mono ?_
                      rintro e w' ⟨rfl, rfl⟩
                      go_wp2
                      go_round
                      case rel => exact ⟨true, j + 1, by omega, rfl, by go_num, HK2⟩
                      case measure => simp [intOf]; omega
                · have HK2 : Hid (rokB E deals out d = if true = true then !(E.drop (j + 1)).any (stopE deals out d) else false) := Lib.hid (by
                    rw [HK.out, HO.out, List.any_cons, HS.out, decide_eq_false hyd, Bool.false_and, Bool.false_or])
                  have t1 : (y == d) = false := by simp; exact hyd
                  clear HK HS HO hyd
                  go_wp2
                  go_round
                  case rel => exact ⟨true, j + 1, by omega, rfl, by go_num, HK2⟩
                  case measure => simp [intOf]; omega
              · have HK2 : Hid (rokB E deals out d = true) := Lib.hid (by rw [HK.out, drop_end (by rw [HLE.out]; omega)]; rfl)
                clear HK
                by_cases hb0 : b = 0
                · have HB3 : Hid (best = rbest (rokB E deals out) d (deals.drop (i + 1))) := Lib.hid (by rw [HB.out, HB2.out, if_pos ⟨HK2.out, .inl hb0⟩])
                  clear HB HB2 HK2
                  have t1 : (b == 0) = true := by simp; exact hb0
                  clear hb0
                  go_wp2
                  go_round
                  case rel => exact ⟨d, i + 1, by omega, rfl, by go_num, HB3⟩
                  case measure => simp [intOf]; omega
                · have t1 : (b == 0) = false := by simp; exact hb0
                  by_cases hdb : d < b
                  · have HB3 : Hid (best = rbest (rokB E deals out) d (deals.drop (i + 1))) := Lib.hid (by rw [HB.out, HB2.out, if_pos ⟨HK2.out, .inr hdb⟩])
                    clear HB HB2 HK2
                    go_wp2
                    go_round
                    case rel => exact ⟨d, i + 1, by omega, rfl, by go_num, HB3⟩
                    case measure => simp [intOf]; omega
                  · have HB3 : Hid (best = rbest (rokB E deals out) b (deals.drop (i + 1))) := Lib.hid (by rw [HB.out, HB2.out, if_neg (fun h => h.2.elim hb0 hdb)])
                    clear HB HB2 HK2
                    go_wp2
                    go_round
                    case rel => exact ⟨b, i + 1, by omega, rfl, by go_num, HB3⟩
                    case measure => simp [intOf]; omega
        · have HB2 : Hid (best = b) := Lib.hid (by rw [HB.out, drop_end (by rw [HL.out]; omega)]; rfl)
          clear HB
          obtain rfl := HB2.out
          by_cases hb0 : best = 0
          · have HF2 : Hid (rsortF E deals = none) := Lib.hid (by rw [HT2.out, if_pos hb0])
            have t1 : (best == 0) = true := by simp; exact hb0
            clear HT2 hb0
            go_wp2
            go_ret2
            exact ⟨_, 0, _, [], rfl, World.ownsRow_nil _ _ _ _, .inr ⟨HF2.out, rfl, rfl⟩, hbw⟩
          · have HF2 : Hid (rsortF E deals = rsortGo E deals f (out ++ [best])) := Lib.hid (by rw [HT2.out, if_neg hb0])
            have t1 : (best == 0) = false := by simp; exact hb0
            have hoo := HOL.out
            clear HT2 hb0
            go_wp2_with (at_builtin; (refine wpList_app rfl (.tmp 79) (.tmp 81) _ rfl w.heap.size slt_ints (n := q) (xs := cellsI out) (m := 1) (news := cellsI [best]) rfl (own_alloc hoo _) rfl (rd_new' _ _ (cellsI [best]) (by simp) rfl) (oneI _) (by omega) (by simp; omega) ?_; intro v5 w5 hown5 hg5 hb5 hat5 hne5))
            have e1 : cellsI out ++ cellsI [best] = cellsI (out ++ [best]) := by simp [cellsI]
            rw [e1] at hown5
            have hbw5 := (hbw.alloc hz (.cells (cellsI [best]).toArray 3)).trans hb5
            have e2 : (out ++ [best]).length = q + 1 := by rw [List.length_append, HQ.out]; rfl
            clear e1
            go_roundw
            case rel => exact ⟨out ++ [best], by rw [e2]; exact hown5, by rw [e2]; omega, Lib.hid (by rw [HF2.out, e2]; congr 1; have := HF.out; omega), hbw5⟩
            case measure => obtain ⟨A5, c5, rfl⟩ := own_slice hown5; simp [lenV]; have := HF.out; omega
    · have HF : Hid (rsortF E deals = some out) := Lib.hid (by rw [HT.out, show n - out.length = 0 by omega]; rfl)
      go_wp2
      go_ret2
      exact ⟨_, _, _, out, rfl, ho6, .inl ⟨HF.out, rfl⟩, hbw⟩
end Go.Proofs.YtecfgepomcnenaaDoor
