
/-
  CONTRACTS of stamp.marks.look, stamp.Run.
-/
import Derived.Test.YtkpnpkikonlmpaaMap
import Derived.Test.YtkpnpkikonlmpaaPlay
import Derived.Test.YtkpnpkikonlmpaaSame
import Derived.BigQuiet
import Derived.Deep.RegionWith

namespace Go.Proofs.Ytkpnpkikonlmpaa
open Go.RowKit

theorem grown_set {w w' : World} {g : Nat} (h : w.grownBy w' (some g)) (i : Nat) (v : Value) : w.grownBy (w'.setCell ⟨g, i, none⟩ v) (some g) :=
  ⟨h.os, h.tape, h.output, by simpa using h.size, fun j hj hne => (Below.heap_setCell w' ⟨g, i, none⟩ v j (fun e => hne (by rw [e]))).trans (h.block j hj hne)⟩
theorem grown_alloc {w w' : World} {row : Option Nat} (h : w.grownBy w' row) (o : Obj) : w.grownBy (w'.alloc o) row := h.trans (World.grownBy_alloc w' o row)

theorem grown_drewN {w w' : World} {row : Option Nat} (h : w.grownBy w' row) (n : Nat) : w.grownBy (w'.drewN n) row := ⟨h.os, h.tape, h.output, h.size, h.block⟩

/-- What look says, and the two marks behind it. -/
def lookM (r wv : Int) (o : HOp) (lv : Bool) : Int × Int × Int :=
  if o.what = 1 then if wv > o.tx then (2, r, wv) else (0, max r o.tx, wv)
  else if r > o.tx ∨ (wv > o.tx ∧ lv = false) then (2, r, wv) else if wv > o.tx then (1, r, wv) else (0, r, o.tx)

set_option maxHeartbeats 1000000 in
theorem mlook_any (g i : Nat) (t : TypeId) (cs : List Value) (r wv : Int) (o : HOp) (lv : Bool) (w : World) (hB : Blk w g t cs) (h0 : cs[i]? = some (.int .i64 r)) (h1 : cs[i + 1]? = some (.int .i64 wv)) :
    Calls Try.prog 46 #[.pointer (some ⟨g, i, none⟩), o.val, .bool lv] w fun e w' => e = .returned (.int .i64 (lookM r wv o lv).1) ∧
      Blk w' g t ((cs.set i (.int .i64 (lookM r wv o lv).2.1)).set (i + 1) (.int .i64 (lookM r wv o lv).2.2)) ∧ w.grownBy w' (some g) := by
  obtain ⟨tx, what, item⟩ := o
  have hs : cs = (cs.set i (.int .i64 r)).set (i + 1) (.int .i64 wv) := by
    rw [set_same h0, set_same h1]
  have hlt := hB.lt
  have c0 := hB.cellS h0
  have c1 := hB.cellS h1
  have f0 := hB.frozen i
  have f1 := hB.frozen (i + 1)
  have HB := Lib.hid hB
  have HS := Lib.hid hs
  have HS1 : Hid (cs.set i (.int .i64 r) = cs ∧ ∀ V, (cs.set i V).set (i + 1) (.int .i64 wv) = cs.set i V) := Lib.hid ⟨set_same h0, fun V => set_same (by rw [List.getElem?_set_ne (by omega)]; exact h1)⟩
  clear hB hs h0 h1
  unfold HOp.val
  by_cases hw : what = 1
  · subst hw
    by_cases hv : wv > tx
    · have HF : Hid (lookM r wv ⟨tx, 1, item⟩ lv = (2, r, wv)) := Lib.hid (by simp [lookM, hv])
      have hv3 : decide (wv > tx) = true := decide_eq_true hv
      clear hv
      go_enter Try.func46, Try.ntmps46
      go_wp2
      go_quiet (fail)
      go_wp2
      go_ret
      refine ⟨by rw [HF.out]; rfl, ?_, ?_⟩
      · rw [HF.out]; simp only []; rw [← HS.out]; exact HB.out.alloc _
      · repeat' (first | exact World.grownBy_alloc w _ _ | apply grown_drewN)
    · have HF : Hid (lookM r wv ⟨tx, 1, item⟩ lv = (0, max r tx, wv)) := Lib.hid (by simp [lookM, hv])
      have hv3 : decide (wv > tx) = false := decide_eq_false hv
      clear hv
      go_enter Try.func46, Try.ntmps46
      go_wp2
      go_quiet (fail)
      go_wp2
      go_region
      all_goals
        go_wp2
        all_goals
          rename_i hm
          go_ret
          refine ⟨by rw [HF.out]; rfl, ?_, ?_⟩
          · rw [HF.out]
            simp only []
            first
              | rw [show max r tx = tx from by omega, HS1.out.2]
              | rw [show max r tx = r from by omega, HS1.out.2]
            exact Blk.put (HB.out.alloc _) i _
          · apply grown_set
            repeat' (first | exact World.grownBy_alloc w _ _ | apply grown_drewN)
  · have hw2 : (what == 1) = false := by simpa using hw
    by_cases hr : r > tx
    · have HF : Hid (lookM r wv ⟨tx, what, item⟩ lv = (2, r, wv)) := Lib.hid (by simp [lookM, hr, hw])
      have hr3 : decide (r > tx) = true := decide_eq_true hr
      clear hr hw
      go_enter Try.func46, Try.ntmps46
      go_wp2
      go_quiet (fail)
      go_wp2
      go_quiet (fail)
      go_wp2
      go_ret
      refine ⟨by rw [HF.out]; rfl, ?_, ?_⟩
      · rw [HF.out]; simp only []; rw [← HS.out]; exact HB.out.alloc _
      · repeat' (first | exact World.grownBy_alloc w _ _ | apply grown_drewN)
    · have hr3 : decide (r > tx) = false := decide_eq_false hr
      by_cases hv : wv > tx
      · have hv3 : decide (wv > tx) = true := decide_eq_true hv
        cases lv
        · have HF : Hid (lookM r wv ⟨tx, what, item⟩ false = (2, r, wv)) := Lib.hid (by simp [lookM, hr, hw, hv])
          clear hr hw hv
          go_enter Try.func46, Try.ntmps46
          go_wp2
          go_quiet (fail)
          go_wp2
          go_quiet (fail)
          go_wp2
          go_ret
          refine ⟨by rw [HF.out]; rfl, ?_, ?_⟩
          · rw [HF.out]; simp only []; rw [← HS.out]; exact HB.out.alloc _
          · repeat' (first | exact World.grownBy_alloc w _ _ | apply grown_drewN)
        · have HF : Hid (lookM r wv ⟨tx, what, item⟩ true = (1, r, wv)) := Lib.hid (by simp [lookM, hr, hw, hv])
          clear hr hw hv
          go_enter Try.func46, Try.ntmps46
          go_wp2
          go_quiet (fail)
          go_wp2
          go_quiet (fail)
          go_wp2
          go_quiet (fail)
          go_wp2
          go_ret
          refine ⟨by rw [HF.out]; rfl, ?_, ?_⟩
          · rw [HF.out]; simp only []; rw [← HS.out]; exact HB.out.alloc _
          · repeat' (first | exact World.grownBy_alloc w _ _ | apply grown_drewN)
      · have hv3 : decide (wv > tx) = false := decide_eq_false hv
        have HF : Hid (lookM r wv ⟨tx, what, item⟩ lv = (0, r, tx)) := Lib.hid (by simp [lookM, hr, hw, hv])
        clear hr hw hv
        go_enter Try.func46, Try.ntmps46
        go_wp2
        go_quiet (fail)
        go_wp2
        go_quiet (fail)
        go_wp2
        go_quiet (fail)
        go_wp2
        go_ret
        refine ⟨by rw [HF.out]; rfl, ?_, ?_⟩
        · rw [HF.out]
          simp only []
          rw [HS1.out.1]
          exact Blk.put (HB.out.alloc _) (i + 1) _
        · apply grown_set
          repeat' (first | exact World.grownBy_alloc w _ _ | apply grown_drewN)
end Go.Proofs.Ytkpnpkikonlmpaa
