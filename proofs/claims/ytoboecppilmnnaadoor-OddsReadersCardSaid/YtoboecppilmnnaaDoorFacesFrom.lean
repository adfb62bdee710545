
/-
  CONTRACT of faces.From: each read's place, and from whom it reads.
-/
import Derived.Test.YtoboecppilmnnaaDoorFacesAll
import Derived.Test.YtoboecppilmnnaaDoorView
namespace Go.Proofs.YtoboecppilmnnaaDoor
open Go.RowKit

/-- The sources of the first k ops. -/
def srcL (h : List HOp) : Nat → List (Int × Int)
  | 0 => []
  | k + 1 => srcL h k ++ (match h[k]? with | some o => (if o.what = 1 then [((k : Int), fromB (h.take k) o)] else []) | none => [])
theorem srcL_succ {h : List HOp} {k : Nat} {o : HOp} (ho : h[k]? = some o) : srcL h (k + 1) = srcL h k ++ (if o.what = 1 then [((k : Int), fromB (h.take k) o)] else []) := by
  rw [srcL, ho]

set_option maxRecDepth 100000 in
set_option maxHeartbeats 2000000 in
theorem facesFrom_ok (A : Option Addr) (n cap : Nat) (h : List HOp) (w : World) (hr : Rd w w.heap.size 3 A n (cellsH h)) (hcap : n ≤ cap) (hok : okH h) :
    Calls Tryd.prog 37 #[.slice A n cap] w fun e w' => ∃ v m, e = .returned (.tuple #[v, .nilIface]) ∧ w'.ownsRow w.heap.size 78 2 v m (dcells (srcL h n)) ∧ Below w.heap.size w w' := by
  have hl := hr.hlen
  have hm : n ≤ 40 := by rw [← hl]; exact okH_len hok
  have C := right_h A n cap h w hr (by omega)
  rw [show (checkF h).2 = 0 from hok, errV_zero] at C
  have HC := hide C
  have CF := hide (fun (i : Nat) (x : HOp) (hx : h[i]? = some x) (w1 : World) (hb : Below w.heap.size w w1) => from_any A n cap h i x w1 ((hr.below hb).more hb.size) (by omega) hcap hx (okH_tx hok))
  clear C hok hl
  go_enter Tryd.func37, Tryd.ntmps37
  go_wp2_with (go_at_call 45; refine (unhide HC).mono ?_; rintro e w1 ⟨rfl, hb1⟩)
  go_loopw [5, 15] (fun s5 i wr => ∃ (k m : Nat), k ≤ n ∧ i = .int .i64 k ∧ wr.ownsRow w.heap.size 78 2 s5 m (dcells (srcL h k)) ∧ m ≤ k ∧ Below w.heap.size w wr) (fun _ i _ => n - (intOf i).toNat)
  case atStart => exact ⟨0, 0, Nat.zero_le _, rfl, World.ownsRow_nil _ _ _ _, Nat.zero_le _, hb1⟩
  case round =>
    clear hb1
    obtain ⟨k, m, hk, rfl, ho5, hmk, hbw⟩ := hrel
    obtain ⟨A5, c5, rfl⟩ := own_slice ho5
    have hz := hbw.size
    by_cases hlt : k < n
    · obtain ⟨b, off, o, he, hb, ho, c0, c1, c2⟩ := (hr.below hbw).op (k := k) (by omega)
      have HS := Lib.hid (srcL_succ ho)
      have CF2 := hide (unhide CF k o ho)
      cases he
      clear ho
      obtain ⟨p1, p2, p3⟩ := o
      have hbwa : Below w.heap.size w (wr.alloc (.cells #[.int .i64 p1, .int .i64 p2, .int .i64 p3] 24)) := hbw.alloc hz _
      have ho5a := own_alloc ho5 (.cells #[.int .i64 p1, .int .i64 p2, .int .i64 p3] 24)
      by_cases hw : p2 = 1
      · subst hw
        generalize fromB (h.take k) ⟨p1, 1, p3⟩ = fv at *
        have HS2 : Hid (srcL h (k + 1) = srcL h k ++ [((k : Int), fv)]) := Lib.hid (by rw [HS.out]; simp)
        go_wp2_with fail
        refine (unhide CF2 _ hbwa).mono ?_
        rintro e w2 ⟨rfl, hb2⟩
        have hbw2 := hbwa.trans (hb2.mono hbwa.size)
        have ho52 := own_below ho5a hb2 (Nat.le_refl _)
        have hz2 := hbw2.size
        clear hb2 ho5a ho5 HS
        go_wp2_with (at_builtin; (refine wpList_app rfl (.tmp 23) (.tmp 29) _ rfl w.heap.size slt_src (n := m) (xs := dcells (srcL h k)) (m := 1) (news := dcells [((k : Int), fv)]) rfl (own_alloc ho52 _) rfl (rd_new' _ _ (dcells [((k : Int), fv)]) (by simp) rfl) (oneD _) (by omega) (by simp; omega) ?_; intro v5 w5 hown5 hg5 hb5 hat5 hne5))
        rw [← dcells_append, ← HS2.out] at hown5
        have hbw5 := (hbw2.alloc hz2 (.cells (dcells [((k : Int), fv)]).toArray 78)).trans hb5
        go_roundw
        case rel => exact ⟨k + 1, m + 1, by omega, by go_num, hown5, by omega, hbw5⟩
        case measure => simp [intOf]; omega
      · have HS2 : Hid (srcL h (k + 1) = srcL h k) := Lib.hid (by rw [HS.out]; simp [hw])
        have hw2 : (p2 == 1) = false := by simpa using hw
        go_wp2
        go_roundw
        case rel => exact ⟨k + 1, m, by omega, by go_num, by rw [HS2.out]; exact ho5a, by omega, hbwa⟩
        case measure => simp [intOf]; omega
    · obtain rfl : k = n := by omega
      go_wp2
      go_ret2
      exact ⟨_, m, rfl, ho5, hbw⟩

set_option maxHeartbeats 400000 in
theorem facesFrom_no (A : Option Addr) (n cap : Nat) (h : List HOp) (w : World) (hr : Rd w w.heap.size 3 A n (cellsH h)) (hm : n ≤ 6000000000000) (hno : ¬ okH h) :
    Calls Tryd.prog 37 #[.slice A n cap] w fun e w' => e = .returned (.tuple #[.slice none 0 0, errV (checkF h).2]) ∧ Below w.heap.size w w' := by
  have C := right_h A n cap h w hr hm
  rw [ne_errV (show (checkF h).2 ≠ 0 from hno)] at C ⊢
  generalize (checkF h).2 = ev at *
  have HC := hide C
  clear C hno
  go_enter Tryd.func37, Tryd.ntmps37
  go_wp2_with (go_at_call 45; refine (unhide HC).mono ?_; rintro e w1 ⟨rfl, hb1⟩)
  go_ret2
  exact ⟨rfl, hb1⟩
end Go.Proofs.YtoboecppilmnnaaDoor
