
/-
  CONTRACTS of stamp.marks.look, stamp.Run.
  MAPS from int to bool, all true: look-up and store.
  CONTRACT of stamp.Run where the ops are right.
-/
import Derived.Test.YtmehghkpghbpjaaGreatQ1
import Derived.Test.YtmehghkpghbpjaaGreatQ4
import Derived.BigQuiet
import Derived.Deep.RegionWith

namespace Go.Proofs.YtmehghkpghbpjaaGreat
open Go.RowKit

theorem grown_set {w w' : World} {g : Nat} (h : w.grownBy w' (some g)) (i : Nat) (v : Value) : w.grownBy (w'.setCell ⟨g, i, none⟩ v) (some g) :=
  ⟨h.os, h.tape, h.output, by simpa using h.size, fun j hj hne => (Below.heap_setCell w' ⟨g, i, none⟩ v j (fun e => hne (by rw [e]))).trans (h.block j hj hne)⟩
theorem grown_alloc {w w' : World} {row : Option Nat} (h : w.grownBy w' row) (o : Obj) : w.grownBy (w'.alloc o) row := h.trans (World.grownBy_alloc w' o row)

theorem grown_drewN {w w' : World} {row : Option Nat} (h : w.grownBy w' row) (n : Nat) : w.grownBy (w'.drewN n) row := ⟨h.os, h.tape, h.output, h.size, h.block⟩

/-- What look says, and the two marks behind it. -/
def lookM (r wv : Int) (o : HOp) (lv : Bool) : Int × Int × Int :=
  if o.what = 1 then if wv > o.tx then (2, r, wv) else (0, max r o.tx, wv)
  else if r > o.tx ∨ (wv > o.tx ∧ lv = false) then (2, r, wv) else if wv > o.tx then (1, r, wv) else (0, r, o.tx)

set_option maxHeartbeats 1000000 in
theorem mlook_any (g i : Nat) (t : TypeId) (cs : List Value) (r wv : Int) (o : HOp) (lv : Bool) (w : World) (hB : Blk w g t cs) (h0 : cs[i]? = some (.int .i64 r)) (h1 : cs[i + 1]? = some (.int .i64 wv)) :
    Calls Tryz.prog 50 #[.pointer (some ⟨g, i, none⟩), o.val, .bool lv] w fun e w' => e = .returned (.int .i64 (lookM r wv o lv).1) ∧
      Blk w' g t ((cs.set i (.int .i64 (lookM r wv o lv).2.1)).set (i + 1) (.int .i64 (lookM r wv o lv).2.2)) ∧ w.grownBy w' (some g) := by
  obtain ⟨tx, what, item⟩ := o
  have hs : cs = (cs.set i (.int .i64 r)).set (i + 1) (.int .i64 wv) := by
    rw [set_same h0, set_same h1]
  have hlt := hB.lt
  have c0 := hB.cellS h0
  have c1 := hB.cellS h1
  have f0 := hB.frozen i
  have f1 := hB.frozen (i + 1)
  have HB := Lib.hid hB
  have HS := Lib.hid hs
  have HS1 : Hid (cs.set i (.int .i64 r) = cs ∧ ∀ V, (cs.set i V).set (i + 1) (.int .i64 wv) = cs.set i V) := Lib.hid ⟨set_same h0, fun V => set_same (by rw [List.getElem?_set_ne (by omega)]; exact h1)⟩
  clear hB hs h0 h1
  unfold HOp.val
  by_cases hw : what = 1
  · subst hw
    by_cases hv : wv > tx
    · have HF : Hid (lookM r wv ⟨tx, 1, item⟩ lv = (2, r, wv)) := Lib.hid (by simp [lookM, hv])
      have hv3 : decide (wv > tx) = true := decide_eq_true hv
      clear hv
      go_enter Tryz.func50, Tryz.ntmps50
      go_wp2
      go_quiet (fail)
      go_wp2
      go_ret
      refine ⟨by rw [HF.out]; rfl, ?_, ?_⟩
      · rw [HF.out]; simp only []; rw [← HS.out]; exact HB.out.alloc _
      · repeat' (first | exact World.grownBy_alloc w _ _ | apply grown_drewN)
    · have HF : Hid (lookM r wv ⟨tx, 1, item⟩ lv = (0, max r tx, wv)) := Lib.hid (by simp [lookM, hv])
      have hv3 : decide (wv > tx) = false := decide_eq_false hv
      clear hv
      go_enter Tryz.func50, Tryz.ntmps50
      go_wp2
      go_quiet (fail)
      go_wp2
      go_region
      all_goals
        go_wp2
        all_goals
          rename_i hm
          go_ret
          refine ⟨by rw [HF.out]; rfl, ?_, ?_⟩
          · rw [HF.out]
            simp only []
            first
              | rw [show max r tx = tx from by omega, HS1.out.2]
              | rw [show max r tx = r from by omega, HS1.out.2]
            exact Blk.put (HB.out.alloc _) i _
          · apply grown_set
            repeat' (first | exact World.grownBy_alloc w _ _ | apply grown_drewN)
  · have hw2 : (what == 1) = false := by simpa using hw
    by_cases hr : r > tx
    · have HF : Hid (lookM r wv ⟨tx, what, item⟩ lv = (2, r, wv)) := Lib.hid (by simp [lookM, hr, hw])
      have hr3 : decide (r > tx) = true := decide_eq_true hr
      clear hr hw
      go_enter Tryz.func50, Tryz.ntmps50
      go_wp2
      go_quiet (fail)
      go_wp2
      go_quiet (fail)
      go_wp2
      go_ret
      refine ⟨by rw [HF.out]; rfl, ?_, ?_⟩
      · rw [HF.out]; simp only []; rw [← HS.out]; exact HB.out.alloc _
      · repeat' (first | exact World.grownBy_alloc w _ _ | apply grown_drewN)
    · have hr3 : decide (r > tx) = false := decide_eq_false hr
      by_cases hv : wv > tx
      · have hv3 : decide (wv > tx) = true := decide_eq_true hv
        cases lv
        · have HF : Hid (lookM r wv ⟨tx, what, item⟩ false = (2, r, wv)) := Lib.hid (by simp [lookM, hr, hw, hv])
          clear hr hw hv
          go_enter Tryz.func50, Tryz.ntmps50
          go_wp2
          go_quiet (fail)
          go_wp2
          go_quiet (fail)
          go_wp2
          go_ret
          refine ⟨by rw [HF.out]; rfl, ?_, ?_⟩
          · rw [HF.out]; simp only []; rw [← HS.out]; exact HB.out.alloc _
          · repeat' (first | exact World.grownBy_alloc w _ _ | apply grown_drewN)
        · have HF : Hid (lookM r wv ⟨tx, what, item⟩ true = (1, r, wv)) := Lib.hid (by simp [lookM, hr, hw, hv])
          clear hr hw hv
          go_enter Tryz.func50, Tryz.ntmps50
          go_wp2
          go_quiet (fail)
          go_wp2
          go_quiet (fail)
          go_wp2
          go_quiet (fail)
          go_wp2
          go_ret
          refine ⟨by rw [HF.out]; rfl, ?_, ?_⟩
          · rw [HF.out]; simp only []; rw [← HS.out]; exact HB.out.alloc _
          · repeat' (first | exact World.grownBy_alloc w _ _ | apply grown_drewN)
      · have hv3 : decide (wv > tx) = false := decide_eq_false hv
        have HF : Hid (lookM r wv ⟨tx, what, item⟩ lv = (0, r, tx)) := Lib.hid (by simp [lookM, hr, hw, hv])
        clear hr hw hv
        go_enter Tryz.func50, Tryz.ntmps50
        go_wp2
        go_quiet (fail)
        go_wp2
        go_quiet (fail)
        go_wp2
        go_quiet (fail)
        go_wp2
        go_ret
        refine ⟨by rw [HF.out]; rfl, ?_, ?_⟩
        · rw [HF.out]
          simp only []
          rw [HS1.out.1]
          exact Blk.put (HB.out.alloc _) (i + 1) _
        · apply grown_set
          repeat' (first | exact World.grownBy_alloc w _ _ | apply grown_drewN)
end Go.Proofs.YtmehghkpghbpjaaGreat


namespace Go.Proofs.YtmehghkpghbpjaaGreat
open Go.RowKit

theorem own_but {w w' : World} {base : Nat} {e : TypeId} {size : Nat} {v : Value} {n : Nat} {xs : List Value} {g : Nat} (h : w.ownsRow base e size v n xs) (hg : w.grownBy w' (some g)) (hlt : g < base) : w'.ownsRow base e size v n xs := by
  refine h.kept hg ?_
  rcases h.2 with ⟨rfl, _⟩ | ⟨k, cap, cur, rfl, hk, _⟩
  · exact .inl rfl
  · right; simp [Value.ownBlock]; omega
theorem below_grown {w w' : World} {B g : Nat} (hg : w.grownBy w' (some g)) (hB : B ≤ g) (hs : B ≤ w.heap.size) : Below B w w' :=
  ⟨hg.os, hg.tape, hg.output, hg.size, fun i hi => hg.block i (by omega) (by simp; omega)⟩

def mpT (l : List Int) : List (Int × Value) := l.map fun t => (t, .bool true)
theorem getI_mpT (l : List Int) (k : Int) : (getI (mpT l) k).getD (.bool false) = .bool (decide (k ∈ l)) := by
  induction l with
  | nil => simp [mpT, getI]
  | cons x t ih =>
    have e : mpT (x :: t) = (x, .bool true) :: mpT t := rfl
    rw [e, getI]
    by_cases h : x = k
    · simp [h]
    · have h2 : ¬ k = x := fun e => h e.symm
      rw [if_neg (by simpa using h), ih]; simp [h2]
theorem putI_mpT (l : List Int) (k : Int) (h : k ∉ l) : putI (mpT l) k (.bool true) = mpT (l ++ [k]) := by
  induction l with
  | nil => rfl
  | cons x t ih =>
    have e : mpT (x :: t) = (x, .bool true) :: mpT t := rfl
    simp only [List.mem_cons, not_or] at h
    rw [e, putI, if_neg (by simpa using fun e => h.1 e.symm), ih h.2]; rfl
theorem wpList_hasI {P : Program} {w : World} {ops : Array Oper} {rest : List Oper} {o : Oper} {a : Act} {Q : Exit → Act → World → Prop} (hg : o.guard = none) (mo x : Operand) (t : TypeId) (hop : o.op = Op.lookup t mo x false) {kt et : TypeId} (ht : P.underlying t = some (.map kt et)) (hk : P.underlying kt = some (.int .i64)) {b : Nat} {l : List Int}
    (hm : MapI w b (mpT l)) {k : Int} (hz : ∀ w, (zeroValue et).run P w = .ok (.bool false) w) (hmo : a.eval mo = .map (some b)) (hx : a.eval x = .int .i64 k)
    (h : wpList P ops Q rest (a.put o.dst (.bool (decide (k ∈ l)))) w) : wpList P ops Q (o :: rest) a w :=
  wpList_lookupI hg mo x t false hop ht hk hm hz hmo hx (by rw [if_neg (by simp), getI_mpT]; exact h)
/-- How many entries a map's block has. -/
def mcount (w : World) (g : Nat) : Nat := match w.heap[g]? with
  | some (.map es _) => es.size
  | _ => 0
theorem mcount_map {w : World} {g : Nat} {m : List (Int × Value)} (h : MapI w g m) : mcount w g = m.length := by
  obtain ⟨es, clock, h1, h2, _⟩ := h
  unfold mcount
  rw [h1]
  have := congrArg List.length h2
  simpa using this
theorem mpT_length (l : List Int) : (mpT l).length = l.length := by simp [mpT]
end Go.Proofs.YtmehghkpghbpjaaGreat


namespace Go.Proofs.YtmehghkpghbpjaaGreat
open Go.RowKit

/-- What stamp.Run tells, and whom it aborts. -/
def stampGo (lv : Bool) (ms : List (Int × Int)) (told : List HOp) (vic : List Int) : List HOp → List HOp × List Int
  | [] => (told, vic)
  | o :: t =>
    if o.tx ∈ vic then stampGo lv ms told vic t
    else if endsB o = true then stampGo lv ms (told ++ [o]) vic t
    else
      let m := ms.getD o.item.toNat (0, 0)
      let r := lookM m.1 m.2 o lv
      if r.1 = 0 then stampGo lv (ms.set o.item.toNat r.2) (told ++ [o]) vic t
      else if r.1 = 2 then stampGo lv (ms.set o.item.toNat r.2) (told ++ [⟨o.tx, 4, 0⟩]) (vic ++ [o.tx]) t
      else stampGo lv (ms.set o.item.toNat r.2) told vic t
def stampF (lv : Bool) (h : List HOp) : List HOp × List Int := stampGo lv (List.replicate 7 (0, 0)) [] [] h

set_option maxRecDepth 100000 in
set_option maxHeartbeats 2000000 in
theorem stamp_any (A : Option Addr) (n cap : Nat) (h : List HOp) (lv : Bool) (w : World) (hr : Rd w w.heap.size 3 A n (cellsH h)) (hok : okH h) :
    Calls Tryz.prog 18 #[.slice A n cap, .bool lv] w fun e w' => ∃ v1 v2 m1 m2, e = .returned (.tuple #[v1, v2, .nilIface]) ∧ w'.ownsRow w.heap.size 54 3 v1 m1 (cellsH (stampF lv h).1) ∧ w'.ownsRow w.heap.size 3 1 v2 m2 (cellsI (stampF lv h).2) ∧ Below w.heap.size w w' := by
  have hm : n ≤ 40 := by rw [← hr.hlen]; exact okH_len hok
  have HR := Lib.hid (okH_right hok)
  have HL := Lib.hid hr.hlen
  have C := right_h A n cap h w hr (by omega)
  rw [show (checkF h).2 = 0 from hok, errV_zero] at C
  have HC := hide C
  clear C hok
  have hmapT : Tryz.prog.underlying 64 = some (.map 3 4) := by kernel_rfl
  have hintT : Tryz.prog.underlying 3 = some (.int .i64) := by kernel_rfl
  have hzT : ∀ w, (zeroValue 4).run Tryz.prog w = .ok (.bool false) w := fun w => by kernel_rfl
  have HT := Lib.hid (And.intro hmapT (And.intro hintT hzT))
  clear hmapT hintT hzT
  have hmm := @run_makeMap Tryz.prog
  go_enter Tryz.func18, Tryz.ntmps18
  go_wp2_with (go_at_call 25; refine (unhide HC).mono ?_; rintro e w1 ⟨rfl, hb1⟩)
  have hz1 := hb1.size
  have hB0 : Blk ((w1.alloc (.cells (dcells (List.replicate 7 (0, 0))).toArray 102)).alloc (.map #[] 0)) w1.heap.size 102 (dcells (List.replicate 7 (0, 0))) := (Blk.new w1 _ _).alloc _
  have hM0 : MapI ((w1.alloc (.cells (dcells (List.replicate 7 (0, 0))).toArray 102)).alloc (.map #[] 0)) (w1.heap.size + 1) (mpT []) := by
    have := MapI.new (w1.alloc (.cells (dcells (List.replicate 7 (0, 0))).toArray 102))
    simpa [mpT] using this
  have hbw0 : Below w.heap.size w ((w1.alloc (.cells (dcells (List.replicate 7 (0, 0))).toArray 102)).alloc (.map #[] 0)) := (hb1.alloc hz1 _).alloc (by simp; omega) _
  clear hmm
  go_loopw [10, 11, 23] (fun s10 s11 i wr => ∃ (k m1 m2 : Nat) (ms : List (Int × Int)) (told : List HOp) (vic : List Int), k ≤ n ∧ i = .int .i64 k ∧ ms.length = 7 ∧
      Blk wr w1.heap.size 102 (dcells ms) ∧ MapI wr (w1.heap.size + 1) (mpT vic) ∧ wr.ownsRow (w1.heap.size + 2) 54 3 s10 m1 (cellsH told) ∧ m1 ≤ k ∧ wr.ownsRow (w1.heap.size + 2) 3 1 s11 m2 (cellsI vic) ∧ m2 ≤ k ∧
      Hid (stampF lv h = stampGo lv ms told vic (h.drop k)) ∧ Below w.heap.size w wr ∧ w1.heap.size + 2 ≤ wr.heap.size)
    (fun _ _ i _ => n - (intOf i).toNat)
  case atStart => exact ⟨0, 0, 0, List.replicate 7 (0, 0), [], [], Nat.zero_le _, rfl, rfl, hB0, hM0, World.ownsRow_nil _ _ _ _, Nat.zero_le _, World.ownsRow_nil _ _ _ _, Nat.zero_le _, rfl, hbw0, by simp⟩
  case round =>
    clear hB0 hM0 hbw0
    obtain ⟨k, m1, m2, ms, told, vic, hk, rfl, hml, hBr, hMr, ho1, hm1, ho2, hm2, HE, hbw, hsz⟩ := hrel
    obtain ⟨A1, c1, rfl⟩ := own_slice ho1
    obtain ⟨A2, c2, rfl⟩ := own_slice ho2
    by_cases hlt : k < n
    · obtain ⟨b, off, o, he, hb, ho, c0, c1, c2⟩ := (hr.below hbw).op (k := k) (by omega)
      cases he
      have hro := HR.out o (List.mem_of_getElem? ho)
      obtain ⟨tx, what, item⟩ := o
      have HO : Hid (h.drop k = ⟨tx, what, item⟩ :: h.drop (k + 1)) := drop_at ho
      clear ho
      by_cases hvt : tx ∈ vic
      · have HE2 : Hid (stampF lv h = stampGo lv ms told vic (h.drop (k + 1))) := Lib.hid (by rw [HE.out, HO.out]; simp [stampGo, hvt])
        have HV := Lib.hid (decide_eq_true hvt)
        clear hvt
        go_wp2_with ((with_reducible show wpList _ _ _ _ _ _); (refine wpList_hasI rfl (.tmp 27) (.tmp 29) _ rfl HT.out.1 HT.out.2.1 (l := vic) (k := tx) (b := w1.heap.size + 1) (hMr.alloc _) HT.out.2.2 rfl rfl ?_; rw [HV.out]))
        go_roundw
        case rel => exact ⟨k + 1, m1, m2, ms, told, vic, by omega, by go_num, hml, hBr.alloc _, hMr.alloc _, own_alloc ho1 _, by omega, own_alloc ho2 _, by omega, HE2, hbw.alloc (by omega) _, by simp; omega⟩
        case measure => simp [intOf]; omega
      · have HV := Lib.hid (decide_eq_false hvt)
        have HVT := Lib.hid hvt
        have hBa := hBr.alloc (.cells #[.int .i64 tx, .int .i64 what, .int .i64 item] 54)
        have hMa := hMr.alloc (.cells #[.int .i64 tx, .int .i64 what, .int .i64 item] 54)
        have ho1a := own_alloc ho1 (.cells #[.int .i64 tx, .int .i64 what, .int .i64 item] 54)
        have ho2a := own_alloc ho2 (.cells #[.int .i64 tx, .int .i64 what, .int .i64 item] 54)
        have hOa : Blk (wr.alloc (.cells #[.int .i64 tx, .int .i64 what, .int .i64 item] 54)) wr.heap.size 54 [.int .i64 tx, .int .i64 what, .int .i64 item] := Blk.new wr _ _
        have hbwa : Below w.heap.size w (wr.alloc (.cells #[.int .i64 tx, .int .i64 what, .int .i64 item] 54)) := hbw.alloc (by omega) _
        have END := ends_any ⟨tx, what, item⟩
        have HEND := hide END
        clear END
        cases hE : endsB ⟨tx, what, item⟩
        · have hI : 1 ≤ item ∧ item ≤ 6 := by simp [rightB, hE, txB] at hro; omega
          obtain ⟨i1, i2⟩ := hI
          have i3 : item.toNat < 7 := by omega
          obtain ⟨⟨r, wv⟩, hmi⟩ : ∃ d, ms[item.toNat]? = some d := ⟨_, List.getElem?_eq_getElem (by omega)⟩
          have LK := fun W hB => mlook_any w1.heap.size (item.toNat * 2) 102 (dcells ms) r wv ⟨tx, what, item⟩ lv W hB (dcells_at hmi).1 (dcells_at hmi).2
          have hgd : ms.getD item.toNat (0, 0) = (r, wv) := by rw [List.getD_eq_getElem?_getD, hmi]; rfl
          have HE3 : Hid (stampF lv h = stampGo lv ms told vic (⟨tx, what, item⟩ :: h.drop (k + 1))) := Lib.hid (by rw [HE.out, HO.out])
          rw [stampGo, if_neg (by exact hvt), if_neg (by rw [hE]; simp)] at HE3
          simp only [hgd] at HE3
          clear hgd hmi
          generalize lookM r wv ⟨tx, what, item⟩ lv = q at LK HE3
          obtain ⟨v, d⟩ := q
          simp only [dcells_set ms item.toNat d] at LK HE3
          rw [hE] at HEND
          have HLK := hide LK
          clear LK hE hvt hro
          by_cases hv0 : v = 0
          · subst hv0
            have HE2 : Hid (stampF lv h = stampGo lv (ms.set item.toNat d) (told ++ [⟨tx, what, item⟩]) vic (h.drop (k + 1))) := Lib.hid (by rw [HE3.out]; simp)
            have h9 : ∀ u ∈ cellsH [⟨tx, what, item⟩], u.oneCell' = true := oneH _
            go_wp2_with (first
              | ((with_reducible show wpList _ _ _ _ _ _); (refine wpList_hasI rfl (.tmp 27) (.tmp 29) _ rfl HT.out.1 HT.out.2.1 (l := vic) (k := tx) (b := w1.heap.size + 1) (hMr.alloc _) HT.out.2.2 rfl rfl ?_; rw [HV.out]))
              | (go_at_call 49; refine (unhide HEND _).mono ?_; rintro e w2 ⟨rfl, hb2⟩; have hz2 := hb2.size; simp at hz2; have hO2 := hOa.below hb2 (by simp); have hB2 := hBa.below hb2 (by simp; omega); have d0 := hO2.cellS (i := 0) (v := .int .i64 tx) rfl; have d1 := hO2.cellS (i := 1) (v := .int .i64 what) rfl; have d2 := hO2.cellS (i := 2) (v := .int .i64 item) rfl))
            go_region_with (first | (go_at_call 50; refine (unhide HLK _ hB2.drew).mono ?_; rintro e w3 ⟨rfl, hB3, hg3⟩; have hz3 := hg3.size; simp at hz3; have hO3 := hO2.drew.grown hg3 (fun k hk => by injection hk; omega); have e0 := hO3.cellS (i := 0) (v := .int .i64 tx) rfl; have e1 := hO3.cellS (i := 1) (v := .int .i64 what) rfl; have e2 := hO3.cellS (i := 2) (v := .int .i64 item) rfl))
            all_goals
              have hM3 := (hMa.below hb2 (by simp; omega)).drew.grown hg3 (fun k hk => by injection hk; omega)
              have ho13 := own_but (own_below ho1a hb2 (by simp)).drew hg3 (by omega)
              have ho23 := own_but (own_below ho2a hb2 (by simp)).drew hg3 (by omega)
              have hbw3 : Below w.heap.size w w3 := ((hbwa.trans (hb2.mono (by simp; omega))).drew).trans (below_grown hg3 hz1 (by simp; omega))
              go_wp2_with (at_builtin; (refine wpList_app rfl (.tmp 43) (.tmp 45) _ rfl (w1.heap.size + 2) slt_op (n := m1) (xs := cellsH told) (m := 1) (news := cellsH [⟨tx, what, item⟩]) rfl (own_alloc ho13 _) rfl (rd_new' _ _ (cellsH [⟨tx, what, item⟩]) (by simp) rfl) h9 (by omega) (by simp; omega) ?_; intro v5 w5 hown5 hg5 hb5 hat5 hne5))
              have hB5 := (hB3.alloc (.cells (cellsH [⟨tx, what, item⟩]).toArray 54)).below hb5 (by omega)
              have hM5 := (hM3.alloc (.cells (cellsH [⟨tx, what, item⟩]).toArray 54)).below hb5 (by omega)
              have ho25 := own_other (own_alloc ho23 (.cells (cellsH [⟨tx, what, item⟩]).toArray 54)) (own_alloc ho13 _) (by decide) hg5
              have hbw5 : Below w.heap.size w w5 := (hbw3.alloc (by omega) _).trans (hb5.mono (by omega))
              have hz5 := hb5.size
              simp at hz5
              rw [← cellsH_append] at hown5
              go_roundw
              case rel => exact ⟨k + 1, m1 + 1, m2, ms.set item.toNat d, told ++ [⟨tx, what, item⟩], vic, by omega, by go_num, by simp [hml], hB5, hM5, hown5, by omega, ho25, by omega, HE2, hbw5, by omega⟩
              case measure => simp [intOf]; omega
          · have hv0b : (v == 0) = false := by simpa using hv0
            by_cases hv2 : v = 2
            · subst hv2
              have HE2 : Hid (stampF lv h = stampGo lv (ms.set item.toNat d) (told ++ [⟨tx, 4, 0⟩]) (vic ++ [tx]) (h.drop (k + 1))) := Lib.hid (by rw [HE3.out]; simp)
              have h9 : ∀ u ∈ cellsH [⟨tx, 4, 0⟩], u.oneCell' = true := oneH _
              clear hv0 hv0b
              go_wp2_with (first
                | ((with_reducible show wpList _ _ _ _ _ _); (refine wpList_hasI rfl (.tmp 27) (.tmp 29) _ rfl HT.out.1 HT.out.2.1 (l := vic) (k := tx) (b := w1.heap.size + 1) (hMr.alloc _) HT.out.2.2 rfl rfl ?_; rw [HV.out]))
                | (go_at_call 49; refine (unhide HEND _).mono ?_; rintro e w2 ⟨rfl, hb2⟩; have hz2 := hb2.size; simp at hz2; have hO2 := hOa.below hb2 (by simp); have hB2 := hBa.below hb2 (by simp; omega); have d0 := hO2.cellS (i := 0) (v := .int .i64 tx) rfl; have d1 := hO2.cellS (i := 1) (v := .int .i64 what) rfl; have d2 := hO2.cellS (i := 2) (v := .int .i64 item) rfl))
              go_region_with (first | (go_at_call 50; refine (unhide HLK _ hB2.drew).mono ?_; rintro e w3 ⟨rfl, hB3, hg3⟩; have hz3 := hg3.size; simp at hz3; have hO3 := hO2.drew.grown hg3 (fun k hk => by injection hk; omega); have e0 := hO3.cellS (i := 0) (v := .int .i64 tx) rfl; have e1 := hO3.cellS (i := 1) (v := .int .i64 what) rfl; have e2 := hO3.cellS (i := 2) (v := .int .i64 item) rfl))
              all_goals
                have hM3 := (hMa.below hb2 (by simp; omega)).drew.grown hg3 (fun k hk => by injection hk; omega)
                have ho13 := own_but (own_below ho1a hb2 (by simp)).drew hg3 (by omega)
                have ho23 := own_but (own_below ho2a hb2 (by simp)).drew hg3 (by omega)
                have hbw3 : Below w.heap.size w w3 := ((hbwa.trans (hb2.mono (by simp; omega))).drew).trans (below_grown hg3 hz1 (by simp; omega))
                go_wp2_with (first
                  | ((with_reducible show wpList _ _ _ _ _ _); (refine wpList_updateI rfl (.tmp 49) (.tmp 51) (.const (.bool true)) _ rfl HT.out.1 HT.out.2.1 (b := w1.heap.size + 1) (m := mpT vic) (k := tx) (u := .bool true) hM3 rfl rfl rfl ?_; intro w4 hM4 hg4; rw [putI_mpT _ _ HVT.out] at hM4; have hz4 := hg4.size; have hO4 := hO3.grown hg4 (fun k hk => by injection hk; omega); have hB4 := hB3.grown hg4 (fun k hk => by injection hk; omega); have ho14 := own_but ho13 hg4 (by omega); have ho24 := own_but ho23 hg4 (by omega); have e0 := hO4.cellS (i := 0) (v := .int .i64 tx) rfl))
                  | (at_builtin; (refine wpList_app rfl (.tmp 52) (.tmp 55) _ rfl (w1.heap.size + 2) slt_int (n := m2) (xs := cellsI vic) (m := 1) (news := [.int .i64 tx]) rfl (own_alloc ho24 _) rfl (rd_new' _ _ [.int .i64 tx] (by simp) rfl) (one1 (x := .int .i64 tx) rfl) (by omega) (by simp; omega) ?_; intro v5 w5 hown5 hg5 hb5 hat5 hne5; have hz5 := hb5.size; simp at hz5; have hO5 := (hO4.alloc (.cells #[.int .i64 tx] 3)).other (own_alloc ho24 _) (by decide) hg5; have ho15 := own_other (own_alloc ho14 (.cells #[.int .i64 tx] 3)) (own_alloc ho24 _) (by decide) hg5; have e0 := hO5.cellS (i := 0) (v := .int .i64 tx) rfl))
                  | (at_builtin; (refine wpList_app rfl (.tmp 57) (.tmp 61) _ rfl (w1.heap.size + 2) slt_op (n := m1) (xs := cellsH told) (m := 1) (news := cellsH [⟨tx, 4, 0⟩]) rfl (own_alloc ho15 _) rfl (rd_new' _ _ (cellsH [⟨tx, 4, 0⟩]) (by simp) rfl) h9 (by omega) (by simp; omega) ?_; intro v6 w6 hown6 hg6 hb6 hat6 hne6)))
                have hB6 := ((hB4.alloc (.cells #[.int .i64 tx] 3)).below hb5 (by omega)).alloc (.cells (cellsH [⟨tx, 4, 0⟩]).toArray 54) |>.below hb6 (by omega)
                have hM6 := ((hM4.alloc (.cells #[.int .i64 tx] 3)).below hb5 (by omega)).alloc (.cells (cellsH [⟨tx, 4, 0⟩]).toArray 54) |>.below hb6 (by omega)
                have hbw4 : Below w.heap.size w w4 := hbw3.trans (below_grown hg4 (by omega) (by omega))
                have hbw6 : Below w.heap.size w w6 := (((hbw4.alloc (by omega) _).trans (hb5.mono (by omega))).alloc (by omega) _).trans (hb6.mono (by omega))
                have ho26 := own_other (own_alloc hown5 (.cells (cellsH [⟨tx, 4, 0⟩]).toArray 54)) (own_alloc ho15 _) (by decide) hg6
                have hz6 := hb6.size
                simp at hz6
                rw [← cellsH_append] at hown6
                go_roundw
                case rel => exact ⟨k + 1, m1 + 1, m2 + 1, ms.set item.toNat d, told ++ [⟨tx, 4, 0⟩], vic ++ [tx], by omega, by go_num, by simp [hml], hB6, hM6, hown6, by omega, by rw [cellsI, List.map_append]; exact ho26, by omega, HE2, hbw6, by omega⟩
                case measure => simp [intOf]; omega
            · have hv2b : (v == 2) = false := by simpa using hv2
              have HE2 : Hid (stampF lv h = stampGo lv (ms.set item.toNat d) told vic (h.drop (k + 1))) := Lib.hid (by rw [HE3.out]; simp [hv0, hv2])
              clear hv0 hv2
              go_wp2_with (first
                | ((with_reducible show wpList _ _ _ _ _ _); (refine wpList_hasI rfl (.tmp 27) (.tmp 29) _ rfl HT.out.1 HT.out.2.1 (l := vic) (k := tx) (b := w1.heap.size + 1) (hMr.alloc _) HT.out.2.2 rfl rfl ?_; rw [HV.out]))
                | (go_at_call 49; refine (unhide HEND _).mono ?_; rintro e w2 ⟨rfl, hb2⟩; have hz2 := hb2.size; simp at hz2; have hO2 := hOa.below hb2 (by simp); have hB2 := hBa.below hb2 (by simp; omega); have d0 := hO2.cellS (i := 0) (v := .int .i64 tx) rfl; have d1 := hO2.cellS (i := 1) (v := .int .i64 what) rfl; have d2 := hO2.cellS (i := 2) (v := .int .i64 item) rfl))
              go_region_with (first | (go_at_call 50; refine (unhide HLK _ hB2.drew).mono ?_; rintro e w3 ⟨rfl, hB3, hg3⟩; have hz3 := hg3.size; simp at hz3; have hO3 := hO2.drew.grown hg3 (fun k hk => by injection hk; omega); have e0 := hO3.cellS (i := 0) (v := .int .i64 tx) rfl; have e1 := hO3.cellS (i := 1) (v := .int .i64 what) rfl; have e2 := hO3.cellS (i := 2) (v := .int .i64 item) rfl))
              all_goals
                have hM3 := (hMa.below hb2 (by simp; omega)).drew.grown hg3 (fun k hk => by injection hk; omega)
                have ho13 := own_but (own_below ho1a hb2 (by simp)).drew hg3 (by omega)
                have ho23 := own_but (own_below ho2a hb2 (by simp)).drew hg3 (by omega)
                have hbw3 : Below w.heap.size w w3 := ((hbwa.trans (hb2.mono (by simp; omega))).drew).trans (below_grown hg3 hz1 (by simp; omega))
                go_wp2
                go_roundw
                case rel => exact ⟨k + 1, m1, m2, ms.set item.toNat d, told, vic, by omega, by go_num, by simp [hml], hB3, hM3, ho13, by omega, ho23, by omega, HE2, hbw3, by omega⟩
                case measure => simp [intOf]; omega
        · have HE2 : Hid (stampF lv h = stampGo lv ms (told ++ [⟨tx, what, item⟩]) vic (h.drop (k + 1))) := Lib.hid (by rw [HE.out, HO.out]; simp [stampGo, HVT.out, hE])
          rw [hE] at HEND
          have h9 : ∀ u ∈ cellsH [⟨tx, what, item⟩], u.oneCell' = true := oneH _
          clear hvt hE
          go_wp2_with (first
            | ((with_reducible show wpList _ _ _ _ _ _); (refine wpList_hasI rfl (.tmp 27) (.tmp 29) _ rfl HT.out.1 HT.out.2.1 (l := vic) (k := tx) (b := w1.heap.size + 1) (hMr.alloc _) HT.out.2.2 rfl rfl ?_; rw [HV.out]))
            | (go_at_call 49; refine (unhide HEND _).mono ?_; rintro e w2 ⟨rfl, hb2⟩; have hz2 := hb2.size; simp at hz2; have hO2 := hOa.below hb2 (by simp); have d0 := hO2.cellS (i := 0) (v := .int .i64 tx) rfl; have d1 := hO2.cellS (i := 1) (v := .int .i64 what) rfl; have d2 := hO2.cellS (i := 2) (v := .int .i64 item) rfl)
            | (at_builtin; (refine wpList_app rfl (.tmp 43) (.tmp 45) _ rfl (w1.heap.size + 2) slt_op (n := m1) (xs := cellsH told) (m := 1) (news := cellsH [⟨tx, what, item⟩]) rfl (own_alloc (own_below ho1a hb2 (by simp)) _) rfl (rd_new' _ _ (cellsH [⟨tx, what, item⟩]) (by simp) rfl) h9 (by omega) (by simp; omega) ?_; intro v5 w5 hown5 hg5 hb5 hat5 hne5)))
          have hB5 := ((hBa.below hb2 (by simp; omega)).alloc (.cells (cellsH [⟨tx, what, item⟩]).toArray 54)).below hb5 (by omega)
          have hM5 := ((hMa.below hb2 (by simp; omega)).alloc (.cells (cellsH [⟨tx, what, item⟩]).toArray 54)).below hb5 (by omega)
          have ho25 := own_other (own_alloc (own_below ho2a hb2 (by simp)) (.cells (cellsH [⟨tx, what, item⟩]).toArray 54)) (own_alloc (own_below ho1a hb2 (by simp)) _) (by decide) hg5
          have hbw5 : Below w.heap.size w w5 := ((hbwa.trans (hb2.mono (by simp; omega))).alloc (by omega) _).trans (hb5.mono (by omega))
          have hz5 := hb5.size
          simp at hz5
          rw [← cellsH_append] at hown5
          go_roundw
          case rel => exact ⟨k + 1, m1 + 1, m2, ms, told ++ [⟨tx, what, item⟩], vic, by omega, by go_num, hml, hB5, hM5, hown5, by omega, ho25, by omega, HE2, hbw5, by omega⟩
          case measure => simp [intOf]; omega
    · have HF : Hid (stampF lv h = (told, vic)) := Lib.hid (by rw [HE.out, drop_end (by rw [HL.out]; omega)]; rfl)
      have hw1z : w.heap.size ≤ w1.heap.size + 2 := by omega
      have HO1 := Lib.hid (own_mono ho1 hw1z)
      have HO2 := Lib.hid (own_mono ho2 hw1z)
      go_wp2
      go_ret3
      exact ⟨_, _, m1, m2, rfl, by rw [HF.out]; exact HO1.out, by rw [HF.out]; exact HO2.out, hbw⟩
end Go.Proofs.YtmehghkpghbpjaaGreat
