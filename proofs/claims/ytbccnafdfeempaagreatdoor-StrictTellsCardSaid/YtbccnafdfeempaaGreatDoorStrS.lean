
/-
  CONTRACT of strict.Run.
-/
import Derived.Test.YtbccnafdfeempaaGreatDoorQ36
import Derived.Deep.QuietTactic
import Derived.Test.YtbccnafdfeempaaGreatDoorSink

namespace Go.Proofs.YtbccnafdfeempaaGreatDoor
open Go.RowKit

theorem run_updF {P : Program} {w : World} {t kt et : TypeId} {b : Nat} {f : Int → Option Value} (ht : P.underlying t = some (.map kt et)) (hk : P.underlying kt = some (.int .i64)) (hm : MapF w b f) (k : Int) (u : Value) :
    ∃ w', (Instr.mapUpdate t (.map (some b)) (.int .i64 k) u).run P w = .ok () w' ∧ MapF w' b (updR f k (some u)) ∧ w.grownBy w' (some b) := by
  obtain ⟨m, hm, hn, hf⟩ := hm
  obtain ⟨w', hrun, h1, h2⟩ := run_updateI (P := P) ht hk hm k u
  exact ⟨w', hrun, ⟨_, h1, nodup_put m k u hn, fun x => by rw [getI_put]; unfold updR; rw [hf x]⟩, h2⟩
theorem step_updF {P : Program} {w : World} {ops : Array Oper} {o : Oper} {a : Act} {K : Act → World → Prop} {Q : Exit → Act → World → Prop} {E : Prop} {kt et : TypeId} {b : Nat} {f : Int → Option Value} (hgd : o.guard = none) (mo x v : Operand) (t : TypeId) (hop : o.op = Op.mapUpdate t mo x v) (ht : P.underlying t = some (.map kt et)) (hk : P.underlying kt = some (.int .i64))
    (hm : MapF w b f) {k : Int} {u : Value} (hmo : a.eval mo = .map (some b)) (hx : a.eval x = .int .i64 k) (hv : a.eval v = u)
    (h : ∀ w', MapF w' b (updR f k (some u)) → w.grownBy w' (some b) → K (a.put o.dst undef) w') : if Region.wanted o (yielded ops a.tmps) = true then Oper.wp P o a w K Q else E := by
  rw [if_pos (by simp [Region.wanted, hgd])]
  obtain ⟨w', hrun, h1, h2⟩ := run_updF (P := P) ht hk hm k u
  unfold Oper.wp
  simp [execOp, hop, hmo, hx, hv, hrun, Result.andThen]
  exact h w' h1 h2
theorem step_qapp {P : Program} {w : World} {ops : Array Oper} {o : Oper} {a : Act} {K : Act → World → Prop} {Q : Exit → Act → World → Prop} {E : Prop} (hgd : o.guard = none) (s x : Operand) (t : TypeId)
    (ho : o.op = .call { callee := .builtin .append, args := #[s, x], argTypes := #[t, t] })
    {e : TypeId} (lo : Nat) (T : SlT P t e 3 24) {v : Value} {l : List HOp} (hs : a.eval s = v) (hown : QRow w lo e v l)
    {B : Nat} {A : Option Addr} {c1 : Nat} {y : HOp} (hx : a.eval x = .slice A 1 c1) (hr : Rd w B 3 A 1 (cellsH [y])) (hb : (l.length + 1) * 24 ≤ 140737488355328) (hbase : lo ≤ w.heap.size)
    (h : ∀ v' w', QRow w' lo e v' (l ++ [y]) → w.grownBy w' v.ownBlock → (v'.ownBlock = v.ownBlock ∨ ∃ k, v'.ownBlock = some k ∧ w.heap.size ≤ k) → K (a.put o.dst v') w') :
    if Region.wanted o (yielded ops a.tmps) = true then Oper.wp P o a w K Q else E := by
  rw [if_pos (by simp [Region.wanted, hgd])]
  obtain ⟨v', w', hrun, h1, h2, h3⟩ := run_qappH (P := P) (ty := o.type) (c1 := c1) T hown hr hb hbase
  unfold Oper.wp execOp
  simp only [ho, resolve, invoke, builtin, Sem.run_bind, Sem.run_pure, Result.andThen_ok, List.map_toArray, List.map_cons, List.map_nil, hs, hx, hrun]
  exact h v' w' h1 h2 h3

set_option maxHeartbeats 1000000 in
theorem strict_right (A : Option Addr) (n cap : Nat) (h : List HOp) (way : Int) (w : World) (hr : Rd w w.heap.size 3 A n (cellsH h)) (hm : n ≤ 6000000000000) (hbad : (checkF h).2 ≠ 0) :
    Calls Tryz.prog 6 #[.slice A n cap, .int .i64 way] w fun e w' => e = .returned (.tuple #[.slice none 0 0, .slice none 0 0, errV (checkF h).2]) ∧ Below w.heap.size w w' := by
  have C := right_h A n cap h w hr hm
  obtain ⟨ev, hev⟩ : ∃ ev, (checkF h).2 = ev := ⟨_, rfl⟩
  rw [hev] at C hbad
  rw [hev]
  have e1 : errV ev = .iface 50 (.int .i64 ev) := by unfold errV; rw [if_neg hbad]
  rw [e1] at C
  rw [e1]
  have HC := hide C
  clear C hr
  go_enter Tryz.func6, Tryz.ntmps6
  go_wp2_with fail
  refine (unhide HC).mono ?_
  rintro e w1 ⟨rfl, hb1⟩
  go_wp2
  go_ret3
  exact ⟨rfl, hb1⟩
set_option maxHeartbeats 1000000 in
theorem strict_way (A : Option Addr) (n cap : Nat) (h : List HOp) (way : Int) (w : World) (hr : Rd w w.heap.size 3 A n (cellsH h)) (hok : okH h) (hw : way < 0 ∨ 2 < way) :
    Calls Tryz.prog 6 #[.slice A n cap, .int .i64 way] w fun e w' => e = .returned (.tuple #[.slice none 0 0, .slice none 0 0, errV 1]) ∧ Below w.heap.size w w' := by
  have hm : n ≤ 40 := by rw [← hr.hlen]; exact okH_len hok
  have C := right_h A n cap h w hr (by omega)
  rw [show (checkF h).2 = 0 from hok, errV_zero] at C
  have HC := hide C
  rw [show errV 1 = .iface 50 (.int .i64 1) from rfl]
  clear C hr hok
  by_cases h1 : way < 0
  · go_enter Tryz.func6, Tryz.ntmps6
    go_wp2_with fail
    refine (unhide HC).mono ?_
    rintro e w1 ⟨rfl, hb1⟩
    go_wp2
    go_ret3
    exact ⟨rfl, hb1⟩
  · have h2 : 2 < way := by omega
    go_enter Tryz.func6, Tryz.ntmps6
    go_wp2_with fail
    refine (unhide HC).mono ?_
    rintro e w1 ⟨rfl, hb1⟩
    go_wp2
    go_ret3
    exact ⟨rfl, hb1⟩
/-- An op more stands behind. -/
theorem SHeap.more {way : Int} {lo : Nat} {wA w6 w7 : World} {s : RSt} {L : RLay} {tag : Nat → Int × Nat} (H : SHeap way lo wA s L tag) {fb : Int → Option Value} (h0 : HMap lo wA fb L.gb 4 tag) (h : ∀ k, QRow wA lo 43 ((fb k).getD nilS) (s.bh k) ∧ ∀ j, ((fb k).getD nilS).ownBlock = some j → tag j = (k, 9)) {x : Int} {l : List HOp} {v : Value}
    (hq : QRow w6 lo 43 v l) (hg6 : wA.grownBy w6 ((fb x).getD nilS).ownBlock) (hat : v.ownBlock = ((fb x).getD nilS).ownBlock ∨ ∃ k, v.ownBlock = some k ∧ wA.heap.size ≤ k) (hm7 : MapF w7 L.gb (updR fb x (some v))) (hg7 : w6.grownBy w7 (some L.gb)) :
    ∃ tag', SHeap way lo w7 { s with bh := updR s.bh x l } L tag' ∧ StepS wA w7 tag tag' := by
  have ht : ∀ k, k < wA.heap.size → tagTo tag wA.heap.size (x, 9) k = tag k := fun k hk => tagTo_old hk
  have hb6 : But wA.heap.size tag (fun m => m = (0, 4) ∨ m = (x, 9)) wA w6 := grown_but hg6 fun k hk => .inr ((h x).2 k hk)
  have hb7 : But wA.heap.size tag (fun m => m = (0, 4) ∨ m = (x, 9)) w6 w7 := ⟨hg7.os, hg7.tape, hg7.output, hg7.size, fun k hk hn => hg7.block k (Nat.lt_of_lt_of_le hk hg6.size) (fun e => hn (.inl (by injection e with e; rw [e]; exact h0.2.1)))⟩
  have hb := hb6.trans hb7
  have hv : ∀ j, v.ownBlock = some j → tagTo tag wA.heap.size (x, 9) j = (x, 9) := fun j hj => by
    rcases hat with e | ⟨k, e, hk⟩
    · have h3 := e.symm.trans hj
      rw [ht j ((h x).1.lt h3).2]
      exact (h x).2 j h3
    · have h3 := Option.some.inj (e.symm.trans hj)
      rw [← h3]; exact tagTo_new hk
  have hq7 : QRow w7 lo 43 v l := hq.kept fun g hg => hg7.block g (hq.lt hg).2 (fun e => by
    have e1 : g = L.gb := by injection e
    have e2 := hv g hg
    rw [e1, ht _ h0.1.lt, h0.2.1] at e2
    injection e2 with _ e2
    cases e2)
  exact ⟨_, H.behind hb ht (HBh.put h0 h hb ht hm7 hq7 hv)⟩
theorem sheap_new (way : Int) (lo : Nat) (w2 : World) (gt : Nat) (hT : Tab w2 gt gt (.slice none 0 0) (.slice none 0 0) [] []) (hlo : lo ≤ gt) :
    ∃ tag, (∀ k, k < lo → 10 ≤ (tag k).2) ∧ SHeap way lo ((((w2.alloc (.map #[] 0)).alloc (.map #[] 0)).alloc (.map #[] 0)).alloc (.cells #[.int .i64 way, .pointer (some ⟨gt, 0, none⟩), .map (some w2.heap.size), .map (some (w2.heap.size + 1)), .map (some (w2.heap.size + 1 + 1)), .slice none 0 0, .slice none 0 0] 58))
      rst0 ⟨w2.heap.size + 1 + 1 + 1, gt, w2.heap.size, w2.heap.size + 1, w2.heap.size + 1 + 1, .slice none 0 0, .slice none 0 0, .slice none 0 0, .slice none 0 0⟩ tag := by
  have hg := hT.blk.lt
  refine ⟨fun k => if k < lo then (0, 20) else if k = gt then (0, 1) else if k = w2.heap.size then (0, 3) else if k = w2.heap.size + 1 then (0, 4) else if k = w2.heap.size + 1 + 1 then (0, 5) else (0, 0), fun k hk => by simp [hk], ?_⟩
  have hm0 : MapF (((w2.alloc (.map #[] 0)).alloc (.map #[] 0)).alloc (.map #[] 0)) w2.heap.size fun _ => none := ((MapF.new w2).kept (Below.heap_alloc _ _ _ (by simp))).kept (Below.heap_alloc _ _ _ (by simp; omega))
  have hm1 : MapF (((w2.alloc (.map #[] 0)).alloc (.map #[] 0)).alloc (.map #[] 0)) (w2.heap.size + 1) fun _ => none := by
    have h := (MapF.new (w2.alloc (.map #[] 0))).kept (w' := ((w2.alloc (.map #[] 0)).alloc (.map #[] 0)).alloc (.map #[] 0)) (Below.heap_alloc _ _ _ (by simp))
    simpa using h
  have hm2 : MapF (((w2.alloc (.map #[] 0)).alloc (.map #[] 0)).alloc (.map #[] 0)) (w2.heap.size + 1 + 1) fun _ => none := by
    have h := MapF.new ((w2.alloc (.map #[] 0)).alloc (.map #[] 0))
    simpa using h
  have hsz : (((w2.alloc (.map #[] 0)).alloc (.map #[] 0)).alloc (.map #[] 0)).heap.size = w2.heap.size + 1 + 1 + 1 := by simp
  have hbk := ((hT.blk.alloc (.map #[] 0)).alloc (.map #[] 0)).alloc (.map #[] 0)
  generalize ((w2.alloc (.map #[] 0)).alloc (.map #[] 0)).alloc (.map #[] 0) = w5 at *
  have hnew := Blk.new w5 58 [.int .i64 way, .pointer (some ⟨gt, 0, none⟩), .map (some w2.heap.size), .map (some (w2.heap.size + 1)), .map (some (w2.heap.size + 1 + 1)), .slice none 0 0, .slice none 0 0]
  rw [hsz] at hnew
  have hk : ∀ (b : Nat) (f : Int → Option Value), MapF w5 b f → ∀ o, MapF (w5.alloc o) b f := fun b f h o => h.kept (Below.heap_alloc _ _ _ h.lt)
  refine ⟨⟨hnew, ?_, by show lo ≤ w2.heap.size + 1 + 1 + 1; omega⟩, ⟨⟨hbk.alloc _, World.ownsRow_nil _ _ _ _, World.ownsRow_nil _ _ _ _, hT.ne, hlo⟩, ?_, (fun k hk => by rcases hk with hk | hk <;> cases hk), linv0⟩, ⟨hk _ _ hm0 _, ?_, by show lo ≤ w2.heap.size; omega⟩,
    ⟨fun _ => none, ⟨hk _ _ hm1 _, ?_, by show lo ≤ w2.heap.size + 1; omega⟩, fun k => ⟨QRow.nil _ _ _, fun j hj => by cases hj⟩⟩, ⟨hk _ _ hm2 _, ?_, by show lo ≤ w2.heap.size + 1 + 1; omega⟩, ⟨World.ownsRow_nil _ _ _ _, fun k hk => by cases hk⟩, ⟨World.ownsRow_nil _ _ _ _, fun k hk => by cases hk⟩⟩
  · show (if w2.heap.size + 1 + 1 + 1 < lo then ((0, 20) : Int × Nat) else if w2.heap.size + 1 + 1 + 1 = gt then (0, 1) else if w2.heap.size + 1 + 1 + 1 = w2.heap.size then (0, 3) else if w2.heap.size + 1 + 1 + 1 = w2.heap.size + 1 then (0, 4) else if w2.heap.size + 1 + 1 + 1 = w2.heap.size + 1 + 1 then (0, 5) else (0, 0)) = (0, 0)
    rw [if_neg (by omega), if_neg (by omega), if_neg (by omega), if_neg (by omega), if_neg (by omega)]
  · show (if gt < lo then ((0, 20) : Int × Nat) else if gt = gt then (0, 1) else _) = (0, 1)
    rw [if_neg (by omega), if_pos rfl]
  · show (if w2.heap.size < lo then ((0, 20) : Int × Nat) else if w2.heap.size = gt then (0, 1) else if w2.heap.size = w2.heap.size then (0, 3) else _) = (0, 3)
    rw [if_neg (by omega), if_neg (by omega), if_pos rfl]
  · show (if w2.heap.size + 1 < lo then ((0, 20) : Int × Nat) else if w2.heap.size + 1 = gt then (0, 1) else if w2.heap.size + 1 = w2.heap.size then (0, 3) else if w2.heap.size + 1 = w2.heap.size + 1 then (0, 4) else _) = (0, 4)
    rw [if_neg (by omega), if_neg (by omega), if_neg (by omega), if_pos rfl]
  · show (if w2.heap.size + 1 + 1 < lo then ((0, 20) : Int × Nat) else if w2.heap.size + 1 + 1 = gt then (0, 1) else if w2.heap.size + 1 + 1 = w2.heap.size then (0, 3) else if w2.heap.size + 1 + 1 = w2.heap.size + 1 then (0, 4) else if w2.heap.size + 1 + 1 = w2.heap.size + 1 + 1 then (0, 5) else _) = (0, 5)
    rw [if_neg (by omega), if_neg (by omega), if_neg (by omega), if_neg (by omega), if_pos rfl]
set_option maxRecDepth 100000 in
set_option maxHeartbeats 4000000 in
theorem strict_any (A : Option Addr) (n cap : Nat) (h : List HOp) (way : Int) (w : World) (hr : Rd w w.heap.size 3 A n (cellsH h)) (hok : okH h) (hw0 : 0 ≤ way) (hw2 : way ≤ 2) (N : Nat) (s' : RSt) (hrun : runL way N h rst0 = some s') (ht : s'.told.length ≤ 1000000) (hv : s'.vic.length ≤ 1000000) :
    Calls Tryz.prog 6 #[.slice A n cap, .int .i64 way] w fun e w' => ∃ v1 v2, e = .returned (.tuple #[v1, v2, .nilIface]) ∧ w'.ownsRow w.heap.size 43 3 v1 s'.told.length (cellsH s'.told) ∧ w'.ownsRow w.heap.size 3 1 v2 s'.vic.length (cellsI s'.vic) ∧ Below w.heap.size w w' := by
  have hm : n ≤ 40 := by rw [← hr.hlen]; exact okH_len hok
  have HL := Lib.hid hr.hlen
  have C := right_h A n cap h w hr (by omega)
  rw [show (checkF h).2 = 0 from hok, errV_zero] at C
  have HC := hide C
  have HRUN := Lib.hid hrun
  have HLE := Lib.hid (And.intro ht hv)
  clear C hok hrun ht hv
  have hmm := @run_makeMap Tryz.prog
  go_enter Tryz.func6, Tryz.ntmps6
  go_wp2_with fail
  refine (unhide HC).mono ?_
  rintro e w1 ⟨rfl, hb1⟩
  go_wp2_with fail
  refine (lnew_any w1).mono ?_
  rintro e w2 ⟨rfl, hT2, hb2⟩
  obtain ⟨tag0, htag, hH0⟩ := sheap_new way w.heap.size w2 w1.heap.size hT2 hb1.size
  have hbs : Below w.heap.size w ((((w2.alloc (.map #[] 0)).alloc (.map #[] 0)).alloc (.map #[] 0)).alloc (.cells #[.int .i64 way, .pointer (some ⟨w1.heap.size, 0, none⟩), .map (some w2.heap.size), .map (some (w2.heap.size + 1)), .map (some (w2.heap.size + 1 + 1)), .slice none 0 0, .slice none 0 0] 58)) := by
    have h0 : Below w.heap.size w w2 := hb1.trans (hb2.mono hb1.size)
    have hz := h0.size
    exact (((h0.alloc hz _).alloc (by simp; omega) _).alloc (by simp; omega) _).alloc (by simp; omega) _
  clear hT2 hb2 hb1 HC
  go_wp2
  clear hmm
  generalize (((w2.alloc (.map #[] 0)).alloc (.map #[] 0)).alloc (.map #[] 0)).alloc (.cells #[.int .i64 way, .pointer (some ⟨w1.heap.size, 0, none⟩), .map (some w2.heap.size), .map (some (w2.heap.size + 1)), .map (some (w2.heap.size + 1 + 1)), .slice none 0 0, .slice none 0 0] 58) = w3 at *
  generalize hg : w2.heap.size + 1 + 1 + 1 = g at *
  generalize w2.heap.size + 1 + 1 = ga at *
  generalize w2.heap.size + 1 = gb at *
  generalize w2.heap.size = gw at *
  generalize w1.heap.size = gt at *
  clear hg
  go_loopw [35] (fun s35 wr => ∃ (k : Nat) (s1 : RSt) (xH xW xT xV : Value) (tag1 : Nat → Int × Nat), k ≤ n ∧ s35 = .int .i64 k ∧ Hid (runL way N (h.drop k) s1 = some s') ∧ SHeap way w.heap.size wr s1 ⟨g, gt, gw, gb, ga, xH, xW, xT, xV⟩ tag1 ∧ StepS w3 wr tag0 tag1 ∧ Hid (∀ x, (s1.bh x).length ≤ k)) (fun s35 _ => n - (intOf s35).toNat)
  case atStart => exact ⟨0, rst0, _, _, _, _, tag0, Nat.zero_le _, rfl, HRUN, hH0, StepS.refl _ _, Lib.hid (fun x => Nat.zero_le _)⟩
  case round =>
    clear hH0 HRUN
    obtain ⟨k, s1, xH, xW, xT, xV, tag1, hk, rfl, HR, hH, hS, HBL⟩ := hrel
    have hbw : Below w.heap.size w wr := hbs.trans (hS.toBelow hbs.size htag)
    by_cases hlt : k < n
    · obtain ⟨b, off, o, he, hb, ho, c0, c1, c2⟩ := (hr.below hbw).op (k := k) hlt
      cases he
      have HDR : Hid (h.drop k = o :: h.drop (k + 1)) := drop_at ho
      have HR1 := HR.out
      rw [HDR.out] at HR1
      unfold runL at HR1
      obtain ⟨tx, what, item⟩ := o
      simp only at HR1 c0 c1 c2
      have hgr1 : g < wr.heap.size := hH.run.1.lt
      have hmap1 : Tryz.prog.underlying 56 = some (.map 3 4) := by kernel_rfl
      have hmap2 : Tryz.prog.underlying 54 = some (.map 3 43) := by kernel_rfl
      have hmap3 : Tryz.prog.underlying 55 = some (.map 3 22) := by kernel_rfl
      have hintT : Tryz.prog.underlying 3 = some (.int .i64) := by kernel_rfl
      have hz1 : ∀ w, (zeroValue 4).run Tryz.prog w = .ok (.bool false) w := fun w => by kernel_rfl
      have hz2 : ∀ w, (zeroValue 43).run Tryz.prog w = .ok (⟨0, 0, 0⟩ : HOp).val w := fun w => by kernel_rfl
      have hz3 : ∀ w, (zeroValue 22).run Tryz.prog w = .ok nilS w := fun w => by kernel_rfl
      have HT := Lib.hid (And.intro hmap3 (And.intro hintT hz3))
      have HLA : Hid (∀ w', MapF w' ga (fAb s1) → (Instr.lookup 56 (.map (some ga)) (.int .i64 tx) false).run Tryz.prog w' = .ok (.bool (s1.ab tx)) w') := Lib.hid fun w' hm' => by
        rw [run_lookupF hmap1 hintT hm' tx (hz1 w') false, if_neg (by simp)]
        unfold fAb
        cases s1.ab tx <;> rfl
      have HLK : Hid (∀ w', MapF w' gw (fWt s1) → (Instr.lookup 54 (.map (some gw)) (.int .i64 tx) true).run Tryz.prog w' = .ok (.tuple #[optV (s1.wt tx), .bool (s1.wt tx).isSome]) w') := Lib.hid fun w' hm' => by
        rw [run_lookupF hmap2 hintT hm' tx (hz2 w') true, if_pos rfl]
        unfold fWt
        cases s1.wt tx <;> rfl
      obtain ⟨w8, hw8⟩ : ∃ w8, wr.alloc (.cells #[.int .i64 tx, .int .i64 what, .int .i64 item] 43) = w8 := ⟨_, rfl⟩
      have hbw8 : Below wr.heap.size wr w8 := by rw [← hw8]; exact (Below.refl _ _).alloc (Nat.le_refl _) _
      have hB8 : Blk w8 wr.heap.size 43 [.int .i64 tx, .int .i64 what, .int .i64 item] := by rw [← hw8]; exact Blk.new wr _ _
      have hcl : ∀ w', Below w8.heap.size w8 w' → SHeap way w.heap.size w' s1 ⟨g, gt, gw, gb, ga, xH, xW, xT, xV⟩ tag1 ∧ Blk w' wr.heap.size 43 [.int .i64 tx, .int .i64 what, .int .i64 item] ∧ StepS w3 w' tag0 tag1 := fun w' hb => ⟨hH.below (hbw8.trans (hb.mono hbw8.size)), hB8.below hb hB8.lt, hS.trans (StepS.below (hbw8.trans (hb.mono hbw8.size)))⟩
      have HCL := hide hcl
      obtain ⟨fb, hfb1, hfb2⟩ := hH.bh
      have HFW := hide (fun w' (hb : Below wr.heap.size wr w') => And.intro (hfb1.but (tag' := tag1) (But.below hb (Nat.le_refl _) : But wr.heap.size tag1 (fun _ => False) wr w') id fun _ _ => rfl) (fun k => And.intro ((hfb2 k).1.kept (w' := w') (fun g hg => hb.block g ((hfb2 k).1.lt hg).2)) (hfb2 k).2))
      have HVL := Lib.hid (fun k (hk : ((fb tx).getD nilS).ownBlock = some k) => ((hfb2 tx).1.lt hk).2)
      have HBW := hide hbw8
      clear hfb1 hfb2
      have HS1 := hide (fun w' (hb : Below w8.heap.size w8 w') => And.intro (hcl w' hb).1.cells.2.2.2.2.1 (And.intro (show w'.cell? ⟨wr.heap.size, 0, none⟩ = some (.int .i64 tx) from (hcl w' hb).2.1.cellS rfl) (HLA.out w' (hcl w' hb).1.ab.1)))
      have HS2 := hide (fun w' (hb : Below w8.heap.size w8 w') => And.intro (hcl w' hb).1.cells.2.2.1 (And.intro (show w'.cell? ⟨wr.heap.size, 0, none⟩ = some (.int .i64 tx) from (hcl w' hb).2.1.cellS rfl) (HLK.out w' (hcl w' hb).1.wt.1)))
      clear hmap1 hmap2 hmap3 hintT hz1 hz2 hz3 ho hcl HR hH hS hB8 hbw
      cases hab : s1.ab tx with
      | true =>
        rw [hab] at HR1 HS1
        rw [if_pos rfl] at HR1
        have HR2 := Lib.hid HR1
        clear HR1
        go_wp2_with fail
        clear hw8
        go_region_held3 (fun w' => w'.cell? ⟨g, 4, none⟩ = some (.map (some ga)) ∧ w'.cell? ⟨wr.heap.size, 0, none⟩ = some (.int .i64 tx) ∧ (Instr.lookup 56 (.map (some ga)) (.int .i64 tx) false).run Tryz.prog w' = .ok (.bool true) w') (first | exact unhide HS1 _ (Below.refl _ _).drew | go_keep) (fail)
        all_goals
          obtain ⟨hHx, _, hSx⟩ := unhide HCL _ (Below.refl w8.heap.size w8).drew
          go_wp2
          go_roundw
          case rel => exact ⟨k + 1, s1, xH, xW, xT, xV, tag1, by omega, by go_num, HR2, hHx, hSx, Lib.hid (fun x => Nat.le_succ_of_le (HBL.out x))⟩
          case measure => simp [intOf]; omega
      | false =>
        rw [hab] at HR1 HS1
        rw [if_neg (by simp)] at HR1
        cases hwt : s1.wt tx with
        | some ow =>
          rw [hwt] at HR1 HS2
          rw [if_pos (show (some ow).isSome = true from rfl)] at HR1
          have HR2 := Lib.hid HR1
          obtain ⟨o1, o2, o3⟩ := ow
          simp only [optV, HOp.val, Option.isSome_some] at HS2
          clear HR1
          go_wp2_with fail
          clear hw8
          go_region_held3 (fun w' => w'.cell? ⟨g, 4, none⟩ = some (.map (some ga)) ∧ w'.cell? ⟨wr.heap.size, 0, none⟩ = some (.int .i64 tx) ∧ (Instr.lookup 56 (.map (some ga)) (.int .i64 tx) false).run Tryz.prog w' = .ok (.bool false) w') (first | exact unhide HS1 _ (Below.refl _ _).drew | go_keep) (fail)
          go_wp2_with fail
          go_region_held3 (fun w' => w'.cell? ⟨g, 2, none⟩ = some (.map (some gw)) ∧ w'.cell? ⟨wr.heap.size, 0, none⟩ = some (.int .i64 tx) ∧ (Instr.lookup 54 (.map (some gw)) (.int .i64 tx) true).run Tryz.prog w' = .ok (.tuple #[.agg #[.int .i64 o1, .int .i64 o2, .int .i64 o3], .bool true]) w') (first | exact unhide HS2 _ (Below.refl _ _).drew.drew | exact unhide HS2 _ ((Below.refl _ _).drew.drew.alloc (Nat.le_refl _) _) | go_keep) (fail)
          all_goals
            obtain ⟨hHy, hBy, hSy⟩ := unhide HCL _ ((Below.refl w8.heap.size w8).drew.drew.alloc (Nat.le_refl _) (.cells #[.int .i64 o1, .int .i64 o2, .int .i64 o3] 43))
            have hHy : SHeap way w.heap.size (w8.alloc (.cells #[.int .i64 o1, .int .i64 o2, .int .i64 o3] 43)).drew.drew s1 ⟨g, gt, gw, gb, ga, xH, xW, xT, xV⟩ tag1 := hHy
            have hBy : Blk (w8.alloc (.cells #[.int .i64 o1, .int .i64 o2, .int .i64 o3] 43)).drew.drew wr.heap.size 43 [.int .i64 tx, .int .i64 what, .int .i64 item] := hBy
            have hSy : StepS w3 (w8.alloc (.cells #[.int .i64 o1, .int .i64 o2, .int .i64 o3] 43)).drew.drew tag0 tag1 := hSy
            have HBY := Lib.hid (show Below wr.heap.size wr (w8.alloc (.cells #[.int .i64 o1, .int .i64 o2, .int .i64 o3] 43)).drew.drew from (((unhide HBW).alloc (unhide HBW).size _).drew).drew)
            generalize (w8.alloc (.cells #[.int .i64 o1, .int .i64 o2, .int .i64 o3] 43)).drew.drew = wy at *
            obtain ⟨_, _, _, y3, _⟩ := hHy.cells
            simp only at y3
            have y0 := hBy.cellS (i := 0) (v := .int .i64 tx) rfl
            have y1 := hBy.cellS (i := 1) (v := .int .i64 what) rfl
            have y2 := hBy.cellS (i := 2) (v := .int .i64 item) rfl
            have hgy : g < wy.heap.size := hHy.run.1.lt
            have hly : wr.heap.size < wy.heap.size := hBy.lt
            have hloy := hHy.loLe
            have hbA : Below wy.heap.size wy (wy.drew.alloc (.cells (cellsH [⟨tx, what, item⟩]).toArray 43)) := (Below.refl _ _).drew.alloc (Nat.le_refl _) _
            have HHA := Lib.hid (hHy.below hbA)
            obtain ⟨hfb1, hfb2⟩ := unhide HFW _ (HBY.out.trans (hbA.mono HBY.out.size))
            obtain ⟨V, hV⟩ : ∃ V, (fb tx).getD nilS = V := ⟨_, rfl⟩
            have hq1 := (hfb2 tx).1
            rw [hV] at hq1
            obtain ⟨AB, cB, rfl⟩ := hq1.shape
            have hbl : (s1.bh tx).length ≤ 40 := by have := HBL.out tx; omega
            obtain ⟨nb, hnb⟩ : ∃ nb, (s1.bh tx).length = nb := ⟨_, rfl⟩
            rw [hnb] at hV hq1 hbl
            have HNB := Lib.hid hnb
            have HV := Lib.hid hV
            have HQ := Lib.hid hq1
            have HFB := Lib.hid (And.intro hfb1 hfb2)
            have HGB : Hid ((Value.slice AB nb cB).ownBlock ≠ some gb) := Lib.hid (fun e => by
              have e1 := (hfb2 tx).2 gb (by rw [hV]; exact e)
              rw [hfb1.2.1] at e1
              injection e1 with _ e1
              cases e1)
            have hfD : MapF wy.drew gb fb := (unhide HFW _ (HBY.out.drew)).1.1
            have HLB : Hid (∀ w', MapF w' gb fb → (Instr.lookup 55 (.map (some gb)) (.int .i64 tx) false).run Tryz.prog w' = .ok (.slice AB nb cB) w') := Lib.hid fun w' hm' => by
              rw [run_lookupF HT.out.1 HT.out.2.1 hm' tx (HT.out.2.2 _) false, if_neg (by simp), HV.out]
            have h9 : ∀ u ∈ cellsH [⟨tx, what, item⟩], u.oneCell' = true := oneH _
            have hrunD : wy.drew.cell? ⟨g, 3, none⟩ = some (.map (some gb)) := y3
            have hboxD : Blk wy.drew wr.heap.size 43 [.int .i64 tx, .int .i64 what, .int .i64 item] := hBy.drew
            have HBOX := Lib.hid hboxD
            have hfd1 := hfb1
            have HSY := Lib.hid hSy
            clear hHy hBy hfb1 hfb2 hV hq1 hnb hSy
            go_wp2_with fail
            refine wp_region_noPanic ?_
            refine wp_region_till (fun w' => w'.cell? ⟨g, 3, none⟩ = some (.map (some gb)) ∧ Blk w' wr.heap.size 43 [.int .i64 tx, .int .i64 what, .int .i64 item] ∧ MapF w' gb fb) 16 (by kernel_rfl) ⟨hrunD, hboxD, hfD⟩ (fun hS0 => ?_)
            refine wpTill_take 0 [3, 2, 1, 0] (v := .pointer (some ⟨g, 0, none⟩)) rfl (by kernel_rfl) (by kernel_rfl) (by kernel_rfl) (by kernel_rfl) (by kernel_rfl) (by kernel_rfl) (fun _ _ _ h => h) hS0 (by rfl) (fun w1 hS1 => by obtain ⟨s1, s2, s3⟩ := hS1; have y0 := s2.cellS (i := 0) (v := .int .i64 tx) rfl; have y1 := s2.cellS (i := 1) (v := .int .i64 what) rfl; have y2 := s2.cellS (i := 2) (v := .int .i64 item) rfl; have y3 := HLB.out w1 s3; clear s2 s3; go_simp) ?_
            simp only [Act.put]
            refine wpTill_take 1 [3, 2, 1] (v := .pointer (some ⟨g, 0, none⟩)) rfl (by kernel_rfl) (by kernel_rfl) (by kernel_rfl) (by kernel_rfl) (by kernel_rfl) (by kernel_rfl) (fun _ _ _ h => h) hS0 (by rfl) (fun w1 hS1 => by obtain ⟨s1, s2, s3⟩ := hS1; have y0 := s2.cellS (i := 0) (v := .int .i64 tx) rfl; have y1 := s2.cellS (i := 1) (v := .int .i64 what) rfl; have y2 := s2.cellS (i := 2) (v := .int .i64 item) rfl; have y3 := HLB.out w1 s3; clear s2 s3; go_simp) ?_
            simp only [Act.put]
            refine wpTill_take 2 [3, 2] (v := .pointer (some ⟨g, 3, none⟩)) rfl (by kernel_rfl) (by kernel_rfl) (by kernel_rfl) (by kernel_rfl) (by kernel_rfl) (by kernel_rfl) (fun _ _ _ h => h) hS0 (by rfl) (fun w1 hS1 => by obtain ⟨s1, s2, s3⟩ := hS1; have y0 := s2.cellS (i := 0) (v := .int .i64 tx) rfl; have y1 := s2.cellS (i := 1) (v := .int .i64 what) rfl; have y2 := s2.cellS (i := 2) (v := .int .i64 item) rfl; have y3 := HLB.out w1 s3; clear s2 s3; go_simp) ?_
            simp only [Act.put]
            refine wpTill_take 4 [5, 4] (v := .pointer (some ⟨wr.heap.size, 0, none⟩)) rfl (by kernel_rfl) (by kernel_rfl) (by kernel_rfl) (by kernel_rfl) (by kernel_rfl) (by kernel_rfl) (fun _ _ _ h => h) hS0 (by rfl) (fun w1 hS1 => by obtain ⟨s1, s2, s3⟩ := hS1; have y0 := s2.cellS (i := 0) (v := .int .i64 tx) rfl; have y1 := s2.cellS (i := 1) (v := .int .i64 what) rfl; have y2 := s2.cellS (i := 2) (v := .int .i64 item) rfl; have y3 := HLB.out w1 s3; clear s2 s3; go_simp) ?_
            simp only [Act.put]
            refine wpTill_take 6 [15, 12, 9, 8, 7, 6] (v := .pointer (some ⟨g, 0, none⟩)) rfl (by kernel_rfl) (by kernel_rfl) (by kernel_rfl) (by kernel_rfl) (by kernel_rfl) (by kernel_rfl) (fun _ _ _ h => h) hS0 (by rfl) (fun w1 hS1 => by obtain ⟨s1, s2, s3⟩ := hS1; have y0 := s2.cellS (i := 0) (v := .int .i64 tx) rfl; have y1 := s2.cellS (i := 1) (v := .int .i64 what) rfl; have y2 := s2.cellS (i := 2) (v := .int .i64 item) rfl; have y3 := HLB.out w1 s3; clear s2 s3; go_simp) ?_
            simp only [Act.put]
            refine wpTill_take 7 [15, 12, 9, 8, 7] (v := .pointer (some ⟨g, 0, none⟩)) rfl (by kernel_rfl) (by kernel_rfl) (by kernel_rfl) (by kernel_rfl) (by kernel_rfl) (by kernel_rfl) (fun _ _ _ h => h) hS0 (by rfl) (fun w1 hS1 => by obtain ⟨s1, s2, s3⟩ := hS1; have y0 := s2.cellS (i := 0) (v := .int .i64 tx) rfl; have y1 := s2.cellS (i := 1) (v := .int .i64 what) rfl; have y2 := s2.cellS (i := 2) (v := .int .i64 item) rfl; have y3 := HLB.out w1 s3; clear s2 s3; go_simp) ?_
            simp only [Act.put]
            refine wpTill_take 8 [15, 12, 9, 8] (v := .pointer (some ⟨g, 3, none⟩)) rfl (by kernel_rfl) (by kernel_rfl) (by kernel_rfl) (by kernel_rfl) (by kernel_rfl) (by kernel_rfl) (fun _ _ _ h => h) hS0 (by rfl) (fun w1 hS1 => by obtain ⟨s1, s2, s3⟩ := hS1; have y0 := s2.cellS (i := 0) (v := .int .i64 tx) rfl; have y1 := s2.cellS (i := 1) (v := .int .i64 what) rfl; have y2 := s2.cellS (i := 2) (v := .int .i64 item) rfl; have y3 := HLB.out w1 s3; clear s2 s3; go_simp) ?_
            simp only [Act.put]
            refine wpTill_take 10 [15, 12, 11, 10] (v := .pointer (some ⟨wr.heap.size, 0, none⟩)) rfl (by kernel_rfl) (by kernel_rfl) (by kernel_rfl) (by kernel_rfl) (by kernel_rfl) (by kernel_rfl) (fun _ _ _ h => h) hS0 (by rfl) (fun w1 hS1 => by obtain ⟨s1, s2, s3⟩ := hS1; have y0 := s2.cellS (i := 0) (v := .int .i64 tx) rfl; have y1 := s2.cellS (i := 1) (v := .int .i64 what) rfl; have y2 := s2.cellS (i := 2) (v := .int .i64 item) rfl; have y3 := HLB.out w1 s3; clear s2 s3; go_simp) ?_
            simp only [Act.put]
            refine wpTill_take 3 [3] (v := .map (some gb)) rfl (by kernel_rfl) (by kernel_rfl) (by kernel_rfl) (by kernel_rfl) (by kernel_rfl) (by kernel_rfl) (fun _ _ _ h => h) hS0 (by rfl) (fun w1 hS1 => by obtain ⟨s1, s2, s3⟩ := hS1; have y0 := s2.cellS (i := 0) (v := .int .i64 tx) rfl; have y1 := s2.cellS (i := 1) (v := .int .i64 what) rfl; have y2 := s2.cellS (i := 2) (v := .int .i64 item) rfl; have y3 := HLB.out w1 s3; clear s2 s3; go_simp) ?_
            simp only [Act.put]
            refine wpTill_take 5 [5] (v := .int .i64 tx) rfl (by kernel_rfl) (by kernel_rfl) (by kernel_rfl) (by kernel_rfl) (by kernel_rfl) (by kernel_rfl) (fun _ _ _ h => h) hS0 (by rfl) (fun w1 hS1 => by obtain ⟨s1, s2, s3⟩ := hS1; have y0 := s2.cellS (i := 0) (v := .int .i64 tx) rfl; have y1 := s2.cellS (i := 1) (v := .int .i64 what) rfl; have y2 := s2.cellS (i := 2) (v := .int .i64 item) rfl; have y3 := HLB.out w1 s3; clear s2 s3; go_simp) ?_
            simp only [Act.put]
            refine wpTill_take 9 [15, 12, 9] (v := .map (some gb)) rfl (by kernel_rfl) (by kernel_rfl) (by kernel_rfl) (by kernel_rfl) (by kernel_rfl) (by kernel_rfl) (fun _ _ _ h => h) hS0 (by rfl) (fun w1 hS1 => by obtain ⟨s1, s2, s3⟩ := hS1; have y0 := s2.cellS (i := 0) (v := .int .i64 tx) rfl; have y1 := s2.cellS (i := 1) (v := .int .i64 what) rfl; have y2 := s2.cellS (i := 2) (v := .int .i64 item) rfl; have y3 := HLB.out w1 s3; clear s2 s3; go_simp) ?_
            simp only [Act.put]
            refine wpTill_take 11 [15, 12, 11] (v := .int .i64 tx) rfl (by kernel_rfl) (by kernel_rfl) (by kernel_rfl) (by kernel_rfl) (by kernel_rfl) (by kernel_rfl) (fun _ _ _ h => h) hS0 (by rfl) (fun w1 hS1 => by obtain ⟨s1, s2, s3⟩ := hS1; have y0 := s2.cellS (i := 0) (v := .int .i64 tx) rfl; have y1 := s2.cellS (i := 1) (v := .int .i64 what) rfl; have y2 := s2.cellS (i := 2) (v := .int .i64 item) rfl; have y3 := HLB.out w1 s3; clear s2 s3; go_simp) ?_
            simp only [Act.put]
            refine wpTill_take 12 [15, 12] (v := .slice AB nb cB) rfl (by kernel_rfl) (by kernel_rfl) (by kernel_rfl) (by kernel_rfl) (by kernel_rfl) (by kernel_rfl) (fun _ _ _ h => h) hS0 (by rfl) (fun w1 hS1 => by obtain ⟨s1, s2, s3⟩ := hS1; have y0 := s2.cellS (i := 0) (v := .int .i64 tx) rfl; have y1 := s2.cellS (i := 1) (v := .int .i64 what) rfl; have y2 := s2.cellS (i := 2) (v := .int .i64 item) rfl; have y3 := HLB.out w1 s3; clear s2 s3; go_simp) ?_
            simp only [Act.put]
            refine wpTill_take 13 [15, 14, 13] (v := .agg #[.int .i64 tx, .int .i64 what, .int .i64 item]) rfl (by kernel_rfl) (by kernel_rfl) (by kernel_rfl) (by kernel_rfl) (by kernel_rfl) (by kernel_rfl) (fun _ _ _ h => h) hS0 (by rfl) (fun w1 hS1 => by obtain ⟨s1, s2, s3⟩ := hS1; have y0 := s2.cellS (i := 0) (v := .int .i64 tx) rfl; have y1 := s2.cellS (i := 1) (v := .int .i64 what) rfl; have y2 := s2.cellS (i := 2) (v := .int .i64 item) rfl; have y3 := HLB.out w1 s3; clear s2 s3; go_simp) ?_
            simp only [Act.put]
            refine wpTill_one 14 rfl (by kernel_rfl) (fun K hK => ?_)
            have HK := Lib.hid hK
            clear hK
            go_simp
            refine HK.out _ _ (fun _ => ⟨(World.cell?_alloc_lt wy.drew (.cells #[.int .i64 tx, .int .i64 what, .int .i64 item] 43) ⟨g, 3, none⟩ hgy).trans hrunD, hboxD.alloc _, hfd1.1⟩) ?_
            clear HK K
            refine wpTill_one 15 rfl (by kernel_rfl) (fun K hK => ?_)
            have HK := Lib.hid hK
            clear hK
            refine step_qapp rfl (.tmp 69) (.tmp 71) _ rfl w.heap.size slt_op (v := .slice AB nb cB) (l := s1.bh tx) rfl HQ.out rfl (rd_new' _ _ (cellsH [⟨tx, what, item⟩]) (by simp) rfl) (by rw [HNB.out]; omega) (by simp; omega) ?_
            intro v6 w6 hq6 hg6 hat6
            obtain ⟨A6, c6, hA6⟩ := hq6.shape
            obtain ⟨n6, hn6⟩ : ∃ n6, (s1.bh tx ++ [(⟨tx, what, item⟩ : HOp)]).length = n6 := ⟨_, rfl⟩
            rw [hn6] at hA6
            subst hA6
            clear hn6
            have hBk6 := HHA.out.run.1.but (grown_but (tag := tag1) (P := fun m => m = (tx, 9)) hg6 fun k hk => (HFB.out.2 tx).2 k (by rw [HV.out]; exact hk)) (by rw [HHA.out.run.2.1]; intro h; injection h with _ h; cases h)
            have p3 := hBk6.cellS (i := 3) (v := .map (some gb)) rfl
            have hbx6 := (HBOX.out.alloc (.cells (cellsH [⟨tx, what, item⟩]).toArray 43)).grown hg6 (fun k hk e => by have h5 := HVL.out k (by rw [HV.out]; exact hk); omega)
            have hf6 : MapF w6 gb fb := HFB.out.1.1.kept (hg6.block gb HFB.out.1.1.lt (fun e => HGB.out e.symm))
            refine HK.out _ _ (fun _ => ⟨p3, hbx6, hf6⟩) ?_
            clear HK K
            simp only [Act.put]
            refine wpTill_one 16 rfl (by kernel_rfl) (fun K hK => ?_)
            have HK := Lib.hid hK
            clear hK
            refine step_updF rfl (.tmp 60) (.tmp 62) (.tmp 72) _ rfl HT.out.1 HT.out.2.1 hf6 (k := tx) (u := .slice A6 n6 c6) rfl rfl rfl ?_
            intro w7 hm7 hg7
            refine HK.out _ _ (fun h => absurd rfl h) ?_
            clear HK K
            refine wpTill_done (by kernel_rfl) (NoPanic.normal ?_) _
            obtain ⟨tag7, hH7, hS7⟩ := HHA.out.more HFB.out.1 HFB.out.2 (x := tx) hq6 (by rw [HV.out]; exact hg6) (by rw [HV.out]; exact hat6) hm7 hg7
            have hS8 := HSY.out.trans ((StepS.below (tag := tag1) hbA).trans hS7)
            have HBL7 : Hid (∀ x, (updR s1.bh tx (s1.bh tx ++ [(⟨tx, what, item⟩ : HOp)]) x).length ≤ k + 1) := Lib.hid (fun x => by
              have h5 := HBL.out
              unfold updR
              split
              · rename_i e
                subst e
                rw [List.length_append, List.length_singleton]
                have := h5 x
                omega
              · exact Nat.le_succ_of_le (h5 x))
            clear hS7 hm7 hg7 hf6 hbx6 p3 hBk6 hq6 hg6 hat6 hS0
            go_wp2
            go_roundw
            case rel => exact ⟨k + 1, _, xH, xW, xT, xV, tag7, by omega, by go_num, HR2, hH7, hS8, HBL7⟩
            case measure => simp [intOf]; omega
        | none =>
          rw [hwt] at HR1 HS2
          rw [if_neg (by simp)] at HR1
          simp only [optV, HOp.val, Option.isSome_none] at HS2
          cases hq : runJ way N (.doo ⟨tx, what, item⟩) s1 with
          | none => rw [hq] at HR1; cases HR1
          | some s2 =>
          rw [hq] at HR1
          simp only at HR1
          have HR2 := Lib.hid HR1
          have hlen2 := runL_told _ _ _ HR1
          have hbh2 := runJ_bh _ _ _ _ hq
          have HBL2 : Hid (∀ x, (s2.bh x).length ≤ k + 1) := Lib.hid (fun x => Nat.le_succ_of_le (Nat.le_trans (hbh2 x) (HBL.out x)))
          have CD := hide (fun L2 tag2 w2 (h2 : SHeap way w.heap.size w2 s1 L2 tag2) => (jc_any way w.heap.size N).doo ⟨tx, what, item⟩ s1 s2 L2 tag2 w2 h2 hq (by have := HLE.out; omega) (by have := HLE.out; omega))
          clear HR1 hq hlen2 hbh2
          go_wp2_with fail
          clear hw8
          go_region_held3 (fun w' => w'.cell? ⟨g, 4, none⟩ = some (.map (some ga)) ∧ w'.cell? ⟨wr.heap.size, 0, none⟩ = some (.int .i64 tx) ∧ (Instr.lookup 56 (.map (some ga)) (.int .i64 tx) false).run Tryz.prog w' = .ok (.bool false) w') (first | exact unhide HS1 _ (Below.refl _ _).drew | go_keep) (fail)
          go_wp2_with fail
          go_region_held3 (fun w' => w'.cell? ⟨g, 2, none⟩ = some (.map (some gw)) ∧ w'.cell? ⟨wr.heap.size, 0, none⟩ = some (.int .i64 tx) ∧ (Instr.lookup 54 (.map (some gw)) (.int .i64 tx) true).run Tryz.prog w' = .ok (.tuple #[.agg #[.int .i64 0, .int .i64 0, .int .i64 0], .bool false]) w') (first | exact unhide HS2 _ (Below.refl _ _).drew.drew | exact unhide HS2 _ ((Below.refl _ _).drew.drew.alloc (Nat.le_refl _) _) | go_keep) (fail)
          all_goals
            obtain ⟨hHy, hBy, hSy⟩ := unhide HCL _ ((Below.refl w8.heap.size w8).drew.drew.alloc (Nat.le_refl _) (.cells #[.int .i64 0, .int .i64 0, .int .i64 0] 43))
            have hHy : SHeap way w.heap.size (w8.alloc (.cells #[.int .i64 0, .int .i64 0, .int .i64 0] 43)).drew.drew s1 ⟨g, gt, gw, gb, ga, xH, xW, xT, xV⟩ tag1 := hHy
            have hBy : Blk (w8.alloc (.cells #[.int .i64 0, .int .i64 0, .int .i64 0] 43)).drew.drew wr.heap.size 43 [.int .i64 tx, .int .i64 what, .int .i64 item] := hBy
            have hSy : StepS w3 (w8.alloc (.cells #[.int .i64 0, .int .i64 0, .int .i64 0] 43)).drew.drew tag0 tag1 := hSy
            generalize (w8.alloc (.cells #[.int .i64 0, .int .i64 0, .int .i64 0] 43)).drew.drew = wy at *
            have y0 := hBy.cellS (i := 0) (v := .int .i64 tx) rfl
            have y1 := hBy.cellS (i := 1) (v := .int .i64 what) rfl
            have y2 := hBy.cellS (i := 2) (v := .int .i64 item) rfl
            have CD2 := hide (unhide CD _ _ wy hHy)
            unfold HOp.val at CD2
            clear hHy hBy
            go_wp2_with fail
            refine (unhide CD2).mono ?_
            rintro e w9 hP
            obtain ⟨rfl, uH, uW, uT, uV, tag9, hH9, hS9⟩ := hP.get
            have hS10 := hSy.trans hS9
            clear hP CD2 hSy hS9
            go_wp2
            go_roundw
            case rel => exact ⟨k + 1, s2, uH, uW, uT, uV, tag9, by omega, by go_num, HR2, hH9, hS10, HBL2⟩
            case measure => simp [intOf]; omega
    · have HR1 := HR.out
      rw [drop_end (by rw [HL.out]; omega)] at HR1
      unfold runL at HR1
      injection HR1 with HR1
      subst HR1
      obtain ⟨_, _, _, _, _, q5, q6⟩ := hH.cells
      simp only at q5 q6
      have hT := hH.told.1
      have hV := hH.vic.1
      obtain ⟨A5, c5, hA5⟩ := own_slice hT
      obtain ⟨A6, c6, hA6⟩ := own_slice hV
      simp only at hA5 hA6
      subst hA5 hA6
      have HTV := Lib.hid (And.intro hT hV)
      clear hT hV HR
      go_wp2_with fail
      go_quiet (fail)
      go_wp2
      go_ret3
      exact ⟨_, _, rfl, HTV.out.1, HTV.out.2, below_drewN hbw _⟩
end Go.Proofs.YtbccnafdfeempaaGreatDoor
