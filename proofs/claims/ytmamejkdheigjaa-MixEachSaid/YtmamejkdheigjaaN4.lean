
/-
  CONTRACT of graph.Reach.
  CONTRACT of graph.Ring.
-/
import Derived.Test.YtmamejkdheigjaaN2
import Derived.Test.YtmamejkdheigjaaQueue

namespace Go.Proofs.Ytmamejkdheigjaa
open Go.RowKit

def bfsIn (d : Int) : List Bool → List Int → List (Int × Int) → List Bool × List Int
  | seen, row, [] => (seen, row)
  | seen, row, e :: t => if e.1 ≠ d ∨ seen.getD e.2.toNat false = true then bfsIn d seen row t else bfsIn d (seen.set e.2.toNat true) (row ++ [e.2]) t
def bfsGo (E : List (Int × Int)) : Nat → List Bool → List Int → List Bool
  | 0, seen, _ => seen
  | _ + 1, seen, [] => seen
  | f + 1, seen, d :: r => bfsGo E f (bfsIn d seen (d :: r) E).1 (bfsIn d seen (d :: r) E).2.tail
def reachF (E : List (Int × Int)) (a b : Int) : Bool := (bfsGo E 8 (List.replicate 7 false) [a]).getD b.toNat false
theorem bfsIn_step {d : Int} {seen : List Bool} {row : List Int} {e : Int × Int} {l t : List (Int × Int)} (h : l = e :: t) : bfsIn d seen row l = if e.1 ≠ d ∨ seen.getD e.2.toNat false = true then bfsIn d seen row t else bfsIn d (seen.set e.2.toNat true) (row ++ [e.2]) t := by rw [h, bfsIn]
def falses (l : List Bool) : Nat := l.countP fun b => !b
theorem falses_set : ∀ {l : List Bool} {i : Nat}, l[i]? = some false → falses (l.set i true) + 1 = falses l
  | [], i, h => by simp at h
  | b :: t, 0, h => by
    obtain rfl : b = false := by simpa using h
    simp [falses]
  | b :: t, i + 1, h => by
    have := falses_set (l := t) (i := i) (by simpa using h)
    unfold falses at this ⊢
    rw [List.set_cons_succ, List.countP_cons, List.countP_cons]; omega
def wfalse (w : World) (g : Nat) : Nat := match w.heap[g]? with
  | some (.cells cur _ _) => cur.toList.countP fun v => match v with | .bool false => true | _ => false
  | _ => 0
theorem wfalse_blk {w : World} {g : Nat} {t : TypeId} {l : List Bool} (h : Blk w g t (l.map .bool)) : wfalse w g = falses l := by
  unfold wfalse
  rw [show w.heap[g]? = _ from h]
  simp only [falses, List.countP_map]
  congr 1
  funext b
  cases b <;> rfl

end Go.Proofs.Ytmamejkdheigjaa


namespace Go.Proofs.Ytmamejkdheigjaa
open Go.RowKit

def ringOf (E : List (Int × Int)) (many : Int) : Option (List Int) := tryGo (fun d => roundGo E (many.toNat - 1) [d]) 6 1
def ringF (E : List (Int × Int)) : Option (List Int) := tryGo (ringOf E) 6 1
def RingPost (E : List (Int × Int)) (w : World) (e : Ending) (w' : World) : Prop :=
  Below w.heap.size w w' ∧ ((ringF E = none ∧ e = .returned (.tuple #[.slice none 0 0, errV 5])) ∨ ∃ L a n c, ringF E = some L ∧ e = .returned (.tuple #[.slice (some a) n c, .nilIface]) ∧ Rd w' w'.heap.size 1 (some a) n (cellsI L))

set_option maxRecDepth 100000 in
set_option maxHeartbeats 4000000 in
theorem ring_ok (A : Option Addr) (n cap : Nat) (E : List (Int × Int)) (w : World) (hr : Rd w w.heap.size 2 A n (dcells E)) (hm : n ≤ 9000000000000) (hc : checkG E = 0) :
    Calls Try.prog 12 #[.slice A n cap] w (RingPost E w) := by
  have C := hide (gcheck_any A n cap E w hr hm)
  rw [hc, show errV 0 = .nilIface from rfl] at C
  have CR := hide (fun w1 (many d : Nat) (hm1 : 1 ≤ many) (hm2 : many ≤ 6) ad c (hb : Below w.heap.size w w1) hd => around_any A n cap E many hm2 hm (many - 1) [(d : Int)] ad 1 c w1 (by omega) (by omega) hd ((hr.below hb).more hb.size))
  have HRF : Hid (ringF E = tryGo (ringOf E) 6 1) := Lib.hid rfl
  have hnq := fun (w : World) (a : Option Addr) (n c : Nat) => run_neq_slice_nil_any (P := Try.prog) w 36 3 a n c 0 0 Try.underlying36
  have e5 : errV 5 = .iface 46 (.int .i64 5) := rfl
  unfold RingPost
  rw [e5]
  generalize ringF E = R at *
  clear hc e5
  go_enter Try.func12, Try.ntmps12
  go_wp2_with fail
  refine (unhide C).mono ?_
  rintro e w1 ⟨rfl, hb1⟩
  clear C
  go_wp2
  go_loopw [5] (fun s5 wr => ∃ m r : Nat, 1 ≤ m ∧ m + r = 7 ∧ s5 = .int .i64 m ∧ Hid (R = tryGo (ringOf E) r m) ∧ Below w.heap.size w wr) (fun s5 _ => 7 - (intOf s5).toNat)
  case atStart => exact ⟨1, 6, by omega, by omega, rfl, HRF, hb1⟩
  case round =>
    clear hb1 HRF
    obtain ⟨m, r, hm1, hm7, rfl, HE, hbw⟩ := hrel
    by_cases hm6 : m ≤ 6
    · obtain ⟨r', rfl⟩ : ∃ r', r = r' + 1 := ⟨r - 1, by omega⟩
      have HE2 := Lib.hid (HE.out.trans (tryGo_step _ r' m))
      have HRO : Hid (ringOf E m = tryGo (fun d => roundGo E (m - 1) [d]) 6 1) := Lib.hid (by unfold ringOf; rw [Int.toNat_natCast])
      clear HE
      obtain ⟨wo, rfl⟩ : ∃ wo : World, wo = wr := ⟨_, rfl⟩
      have hmb : decide ((m : Int) ≤ 6) = true := by simp; omega
      go_wp2
      clear hmb
      go_loopw [6] (fun s6 wx => ∃ d q : Nat, 1 ≤ d ∧ d + q = 7 ∧ s6 = .int .i64 d ∧ Hid (ringOf E m = tryGo (fun d => roundGo E (m - 1) [d]) q d) ∧ Below w.heap.size w wx) (fun s6 _ => 7 - (intOf s6).toNat)
      case atStart => exact ⟨1, 6, by omega, by omega, rfl, HRO, hbw⟩
      case round =>
        clear hbw HRO
        obtain ⟨d, q, hd1, hd7, rfl, HO, hbx⟩ := hrel
        by_cases hd6 : d ≤ 6
        · obtain ⟨q', rfl⟩ : ∃ q', q = q' + 1 := ⟨q - 1, by omega⟩
          have HO2 := Lib.hid (HO.out.trans (tryGo_step _ q' d))
          have hbxa := hbx.alloc hbx.size (.cells (cellsI [(d : Int)]).toArray 3)
          have CA := hide (unhide CR _ m d hm1 hm6 ⟨wr.heap.size, 0, none⟩ 1 hbxa ((rd_new wr 3 (size := 1) (n := 1) (cellsI [(d : Int)]) rfl).more (by simp)))
          clear HO
          go_wp2_with fail
          refine (unhide CA).mono ?_
          rintro e w2 ⟨hb2, hcs⟩
          have hbw2 := hbxa.trans (hb2.mono hbxa.size)
          clear CA
          rcases hcs with ⟨hnone, rfl⟩ | ⟨L, a2, n2, c2, hsome, rfl, hd2⟩
          · have HO3 : Hid (ringOf E m = tryGo (fun d => roundGo E (m - 1) [d]) q' (d + 1 : Nat)) := Lib.hid (by rw [HO2.out, hnone]; rfl)
            clear hnone HO2
            go_wp2
            go_roundw
            case rel => exact ⟨d + 1, q', by omega, by omega, by go_num, HO3, hbw2⟩
            case measure => simp [intOf]; omega
          · have HF : Hid (R = some L) := Lib.hid (by rw [HE2.out, HO2.out, hsome])
            clear hsome HO2 HE2
            go_wp2
            go_ret2
            exact ⟨hbw2, .inr ⟨L, _, _, _, HF.out, rfl, hd2⟩⟩
        · obtain rfl : q = 0 := by omega
          have HE3 : Hid (R = tryGo (ringOf E) r' (m + 1 : Nat)) := Lib.hid (by rw [HE2.out, HO.out]; rfl)
          clear HO HE2
          go_wp2
          go_roundw
          case rel => exact ⟨m + 1, r', by omega, by omega, by go_num, HE3, hbx⟩
          case measure => simp [intOf]; omega
    · obtain rfl : r = 0 := by omega
      have HF : Hid (R = none) := Lib.hid (by rw [HE.out]; rfl)
      clear HE
      go_wp2
      go_ret2
      exact ⟨hbw, .inl ⟨HF.out, rfl⟩⟩
theorem ring_no (A : Option Addr) (n cap : Nat) (E : List (Int × Int)) (w : World) (hr : Rd w w.heap.size 2 A n (dcells E)) (hm : n ≤ 9000000000000) (hc : checkG E ≠ 0) :
    Calls Try.prog 12 #[.slice A n cap] w fun e w' => e = .returned (.tuple #[.slice none 0 0, errV (checkG E)]) ∧ Below w.heap.size w w' := by
  have C := hide (gcheck_any A n cap E w hr hm)
  rw [ne_errV hc] at C ⊢
  generalize checkG E = ev at *
  clear hc
  go_enter Try.func12, Try.ntmps12
  go_wp2_with fail
  refine (unhide C).mono ?_
  rintro e w1 ⟨rfl, hb1⟩
  go_wp2
  go_ret2
  exact ⟨rfl, hb1⟩
end Go.Proofs.Ytmamejkdheigjaa
