
/-
  CONTRACT of valid.Play, for whatever rules look without writing.
-/
import Derived.Test.YtmehghkpghbpjaaGreatQ26
import Derived.Test.YtmehghkpghbpjaaGreatQ23
import Derived.Deep.DeepCutAuto

namespace Go.Proofs.YtmehghkpghbpjaaGreat
open Go.RowKit

section
variable {P : Program} {ops : Array Oper} {rest : List Oper} {o : Oper} {a : Act} {w : World} {Q : Exit → Act → World → Prop}
/-- A look-up that tells whether it found, its two answers named. -/
theorem wpList_look2 (hg : o.guard = none) (mo x : Operand) (t : TypeId) (hop : o.op = Op.lookup t mo x true) {kt et : TypeId} (ht : P.underlying t = some (.map kt et)) (hk : P.underlying kt = some (.int .i64)) {b : Nat} {m : List (Int × Value)}
    (hm : MapI w b m) {k : Int} {z v : Value} {q : Bool} (hz : ∀ w, (zeroValue et).run P w = .ok z w) (hv : (getI m k).getD z = v) (hq : (getI m k).isSome = q) (hmo : a.eval mo = .map (some b)) (hx : a.eval x = .int .i64 k)
    (h : wpList P ops Q rest (a.put o.dst (.tuple #[v, .bool q])) w) : wpList P ops Q (o :: rest) a w :=
  wpList_lookupI hg mo x t true hop ht hk hm hz hmo hx (by rw [if_pos rfl, hv, hq]; exact h)
end
theorem step_app4 {P : Program} {w : World} {ops : Array Oper} {o : Oper} {a : Act} {K : Act → World → Prop} {Q : Exit → Act → World → Prop} {E : Prop} (hgd : o.guard = none) (s x : Operand) (t : TypeId)
    (ho : o.op = .call { callee := .builtin .append, args := #[s, x], argTypes := #[t, t] })
    {e : TypeId} {size bytes : Nat} (base : Nat) (T : SlT P t e size bytes) {v : Value} {n : Nat} {xs : List Value} (hs : a.eval s = v) (hown : w.ownsRow base e size v n xs)
    {B : Nat} {A : Option Addr} {m c : Nat} {news : List Value} (hx : a.eval x = .slice A m c) (hr : Rd w B size A m news) (h1 : ∀ u ∈ news, u.oneCell' = true) (hbytes : (n + m) * bytes ≤ 140737488355328) (hbase : base ≤ w.heap.size)
    (h : ∀ v' w', w'.ownsRow base e size v' (n + m) (xs ++ news) → w.grownBy w' v.ownBlock → Below base w w' → (v'.ownBlock = v.ownBlock ∨ v'.ownBlock = some w.heap.size) → K (a.put o.dst v') w') :
    if Region.wanted o (yielded ops a.tmps) = true then Oper.wp P o a w K Q else E := by
  rw [if_pos (by simp [Region.wanted, hgd])]
  exact wp_app s x t ho base T hs hown hx hr h1 hbytes hbase fun v' w' h2 h3 h4 h5 _ => h v' w' h2 h3 h4 h5
theorem slt_seen : SlT Tryz.prog 38 50 3 24 := slt_of (z := .agg #[.int .i64 0, .int .i64 0, .int .i64 0]) Tryz.underlying38 (by kernel_rfl) (by kernel_rfl) (by decide) (by decide)
theorem slt_deals : SlT Tryz.prog 81 84 1 8 := slt_of (z := .pointer none) Tryz.underlying81 (by kernel_rfl) (by kernel_rfl) (by decide) (by decide)
theorem build_deal (tx k : Int) (A : Option Addr) (n c : Nat) (w : World) : (Instr.build 88 #[(0, .int .i64 tx), (1, .int .i64 k), (2, .int .i64 (-1)), (5, .slice A n c)]).run Tryz.prog w = .ok (.agg #[.int .i64 tx, .int .i64 k, .int .i64 (-1), .slice none 0 0, .slice none 0 0, .slice A n c]) w := run_build w _ _ _ (by kernel_rfl)
theorem pst0 {tk tl : TypeId} (wB w : World) (hb : Below wB.heap.size wB w) (kp : Option (Nat × Value)) (hkp : (tk = tl ∧ kp = none) ∨ (tk ≠ tl ∧ kp = some (wB.heap.size, .slice none 0 0) ∧ Blk w wB.heap.size tk [.slice none 0 0])) (cs : List Value) : ∃ L tag, PSt tk tl wB (((w.alloc (.cells cs.toArray 92)).alloc (.cells #[.int .i64 0, .int .i64 0, .int .i64 0, .int .i64 0, .int .i64 0, .int .i64 0] 3)).alloc (.map #[] 0)) (w.heap.size + 2) (w.heap.size + 1) [(w.heap.size, 92, cs)] vs00 L tag ∧ L.vd = .slice none 0 0 := by
  have hz := hb.size
  let L : VLay := ⟨w.heap.size + 2, w.heap.size + 1, .slice none 0 0, kp, fun _ => 0, fun _ => .slice none 0 0, fun _ => .slice none 0 0, fun _ => .slice none 0 0⟩
  let tag : Nat → Int × Nat := fun b => if b = w.heap.size + 1 then (0, 1) else if b = w.heap.size + 2 then (0, 0) else if b = wB.heap.size ∧ kp ≠ none then (0, 3) else (0, 9)
  have t1 : tag (w.heap.size + 1) = (0, 1) := if_pos rfl
  have t2 : tag (w.heap.size + 2) = (0, 0) := by show (if _ then _ else _) = _; rw [if_neg (by omega), if_pos rfl]
  have t3 : ∀ b, b < wB.heap.size → tag b = (0, 9) := fun b hb => by show (if _ then _ else _) = _; rw [if_neg (by omega), if_neg (by omega), if_neg (fun h => by omega)]
  have t4 : kp ≠ none → wB.heap.size < w.heap.size → tag wB.heap.size = (0, 3) := fun hk hlt => by show (if _ then _ else _) = _; rw [if_neg (by omega), if_neg (by omega), if_pos ⟨rfl, hk⟩]
  have hb0 := Blk.new w 92 cs
  have hb1 := Blk.new (w.alloc (.cells cs.toArray 92)) 3 (cellsI [0, 0, 0, 0, 0, 0])
  have hm := MapI.new ((w.alloc (.cells cs.toArray 92)).alloc (.cells #[.int .i64 0, .int .i64 0, .int .i64 0, .int .i64 0, .int .i64 0, .int .i64 0] 3))
  have t5 : tag w.heap.size = (0, 9) := by
    show (if _ then _ else _) = _
    rw [if_neg (by omega), if_neg (by omega), if_neg (fun h => ?_)]
    rcases hkp with ⟨_, e⟩ | ⟨_, _, e⟩
    · exact h.2 e
    · have := e.lt; omega
  refine ⟨L, tag, ⟨⟨?_, t2, by show wB.heap.size ≤ w.heap.size + 2; omega, ?_, t1, by show wB.heap.size ≤ w.heap.size + 1; omega, World.ownsRow_nil _ _ _ _, fun _ h => (by cases h), fun _ h => (by cases h), List.nodup_nil, fun _ h => (by cases h), ?_⟩, rfl, rfl, fun x hx => ?_, t3, ?_, ?_⟩, rfl⟩
  · have := hm
    simp at this
    exact this
  · have := hb1.alloc (.map #[] 0)
    simp at this
    exact this
  · show KeepH _ _ _ _ _ kp
    rcases hkp with ⟨_, rfl⟩ | ⟨_, rfl, hB⟩
    · trivial
    · have hlt := hB.lt
      exact ⟨((hB.alloc _).alloc _).alloc _, Nat.le_refl _, t4 (by simp) hlt, World.ownsRow_nil _ _ _ _, fun _ h => (by cases h)⟩
  · rw [List.mem_singleton] at hx
    subst hx
    exact ⟨(hb0.alloc _).alloc _, t5⟩
  · exact ((hb.alloc hz _).alloc (by simp; omega) _).alloc (by simp; omega) _
  · show kp.map (·.1) = _
    rcases hkp with ⟨h, rfl⟩ | ⟨h, rfl, _⟩
    · rw [if_pos h]; rfl
    · rw [if_neg h]; rfl

/-- What a look does to a run's heap: the keeper's things alone change. -/
structure Looked (T : VTy) (lo : Nat) (w1 w' : World) (s' : VSt) (L L' : VLay) (tag tag' : Nat → Int × Nat) : Prop where
  heap : VHeap T lo w' s' L' tag'
  but : But w1.heap.size tag (fun m => m = (0, 3) ∨ m = (0, 4)) w1 w'
  old : ∀ j, j < w1.heap.size → tag' j = tag j
  gm : L'.gm = L.gm
  gl : L'.gl = L.gl
  kp : L'.kp.map (·.1) = L.kp.map (·.1)
  vd : L'.vd = L.vd
  g : L'.g = L.g
theorem Looked.none {T : VTy} {lo : Nat} {w1 w' : World} {s : VSt} {L : VLay} {tag : Nat → Int × Nat} (H : VHeap T lo w1 s L tag) (hb : Below w1.heap.size w1 w') : Looked T lo w1 w' s L L tag tag :=
  ⟨H.below hb, But.below hb (Nat.le_refl _), fun _ _ => rfl, rfl, rfl, rfl, rfl, rfl⟩
theorem PSt.looked {tk tl : TypeId} {w0 w1 w' : World} {gm gl : Nat} {temps : List (Nat × TypeId × List Value)} {s s' : VSt} {L L' : VLay} {tag tag' : Nat → Int × Nat} (P : PSt tk tl w0 w1 gm gl temps s L tag) (h : Looked (vT tk tl) w0.heap.size w1 w' s' L L' tag tag') : PSt tk tl w0 w' gm gl temps s' L' tag' :=
  P.step h.but (by simp) h.old h.heap h.gm h.gl h.kp

set_option maxRecDepth 100000 in
set_option maxHeartbeats 4000000 in
theorem vplay_any {tk tl : TypeId} (A : Option Addr) (n c : Nat) (h : List HOp) (R : VRules) (hlook : ∀ s d i, (R.look s d i).length ≤ s.looks.length + 1) (FS FM : FuncId) (bS cS bM cM : Array Value) (wB w : World) (kp : Option (Nat × Value)) (hkp : (tk = tl ∧ kp = none) ∨ (tk ≠ tl ∧ kp = some (wB.heap.size, .slice none 0 0) ∧ Blk w wB.heap.size tk [.slice none 0 0])) (hbB : Below wB.heap.size wB w) (hr : Rd wB wB.heap.size 3 A n (cellsH h)) (hn : n ≤ 40) (hR : ∀ o ∈ h, rightB o = true)
    (hcS : ∀ (args : Array Value) (w : World), (callFunc FS args).run Tryz.prog w = .ok (.enter FS args) w) (hcM : ∀ (args : Array Value) (w : World), (callFunc FM args).run Tryz.prog w = .ok (.enter FM args) w)
    (hS : ∀ (s : VSt) (L : VLay) (tag : Nat → Int × Nat) (w1 : World) (d : Dl) (i : Int), VHeap (vT tk tl) wB.heap.size w1 s L tag → VOk 41 s → d ∈ s.ds → 1 ≤ i → i ≤ 6 → L.kp.map (·.1) = (if tk = tl then none else some wB.heap.size) →
      Calls Tryz.prog FS (bS ++ (#[.pointer (some ⟨L.g d.tx, 0, none⟩), .int .i64 i, .slice (some ⟨L.gl, 0, none⟩) 6 6, L.vd] ++ cS)) w1 fun e w' => e = .returned (.int .i64 (R.see s d i)) ∧ ∃ L' tag', Looked (vT tk tl) wB.heap.size w1 w' { s with looks := R.look s d i } L L' tag tag' )
    (hM : ∀ (s : VSt) (L : VLay) (tag : Nat → Int × Nat) (w1 : World) (d : Dl), VHeap (vT tk tl) wB.heap.size w1 s L tag → VOk 41 s → d ∈ s.ds → L.kp.map (·.1) = (if tk = tl then none else some wB.heap.size) →
      Calls Tryz.prog FM (bM ++ (#[.pointer (some ⟨L.g d.tx, 0, none⟩), L.vd] ++ cM)) w1 fun e w' => e = .returned (.bool (R.may s d)) ∧ Below w1.heap.size w1 w') :
    Calls Tryz.prog 37 #[.slice A n c, .agg #[.func (.func FS) bS cS, .func (.func FM) bM cM]] w fun e w' => ∃ L tag, e = .returned (.tuple #[L.vd, .slice (some ⟨w.heap.size + 1, 0, none⟩) 6 6]) ∧ PSt tk tl wB w' (w.heap.size + 2) (w.heap.size + 1) [] (playV R h) L tag ∧ VOk n (playV R h) := by
  have hzB := hbB.size
  have HL := Lib.hid hr.hlen
  have HRB := Lib.hid hR
  have HS := hide hS
  have HM := hide hM
  have HCS := Lib.hid hcS
  have HCM := Lib.hid hcM
  have HLK := Lib.hid hlook
  have HT := Lib.hid (And.intro (show Tryz.prog.underlying 130 = some (.map 3 84) by kernel_rfl) (And.intro (show Tryz.prog.underlying 3 = some (.int .i64) by kernel_rfl) (show ∀ w, (zeroValue 84).run Tryz.prog w = .ok (.pointer none) w from fun w => by kernel_rfl)))
  have hmm := @run_makeMap Tryz.prog
  have hmk := make6
  have HP0 := hide (pst0 (tk := tk) (tl := tl) wB w hbB kp hkp [.func (.func FS) bS cS, .func (.func FM) bM cM])
  have HRd := hide (fun w1 (hb : Below wB.heap.size wB w1) => hr.below hb)
  clear hr hR hS hM hcS hcM hlook hkp
  go_enter Tryz.func37, Tryz.ntmps37
  go_wp2
  clear hmm hmk
  go_loopw [6, 20] (fun s6 s20 wr => ∃ (k : Nat) (s : VSt) (L : VLay) (tag : Nat → Int × Nat), k ≤ n ∧ s20 = .int .i64 k ∧ s6 = L.vd ∧ PSt tk tl wB wr (w.heap.size + 2) (w.heap.size + 1) [(w.heap.size, 92, [.func (.func FS) bS cS, .func (.func FM) bM cM])] s L tag ∧ Hid (VOk k s) ∧ Hid (playV R h = vrun R k (h.drop k) s)) (fun _ s20 _ => n - (intOf s20).toNat)
  case atStart =>
    obtain ⟨L, tag, hP, hvd⟩ := unhide HP0
    exact ⟨0, vs00, L, tag, Nat.zero_le _, rfl, hvd.symm, hP, Lib.hid vok00, Lib.hid rfl⟩
  case round =>
    clear HP0
    obtain ⟨k, s, L, tag, hk, rfl, rfl, hP, HOK, HE⟩ := hrel
    by_cases hlt : k < n
    · obtain ⟨b, off, o, he, hb, ho, c0, c1, c2⟩ := (unhide HRd wr hP.below).op (k := k) hlt
      cases he
      have HRO := Lib.hid (HRB.out o (List.mem_of_getElem? ho))
      have HE2 : Hid (playV R h = vrun R (k + 1) (h.drop (k + 1)) (vstep R k o s)) := Lib.hid (by rw [HE.out, drop_at ho]; rfl)
      have HOK2 : Hid (VOk (k + 1) (vstep R k o s)) := Lib.hid (vstep_ok HLK.out HOK.out HRO.out)
      obtain ⟨tag1, hP1⟩ := hP.temp 54 [.int .i64 o.tx, .int .i64 o.what, .int .i64 o.item]
      have hO := (hP1.temps _ List.mem_cons_self).1
      obtain ⟨tx, what, item⟩ := o
      simp only at c0 c1 c2 hO hP1
      have e0 := hO.cellS (i := 0) (v := .int .i64 tx) rfl
      have e1 := hO.cellS (i := 1) (v := .int .i64 what) rfl
      have e2 := hO.cellS (i := 2) (v := .int .i64 item) rfl
      have hMp := hP1.heap.map
      rw [hP1.gm] at hMp
      obtain ⟨v, hv⟩ : ∃ v, (getI (mapD L s.ds) tx).getD (.pointer none) = v := ⟨_, rfl⟩
      obtain ⟨q, hq⟩ : ∃ q, (getI (mapD L s.ds) tx).isSome = q := ⟨_, rfl⟩
      have HV := Lib.hid hv
      have HQ := Lib.hid hq
      have HPh := hide hP1
      have hlo := hP1.below.size
      clear HE ho hP hP1 hv hq
      go_upto_if 33 with (first
        | ((with_reducible show wpList _ _ _ _ _ _); (refine wpList_look2 rfl (.tmp 26) (.tmp 28) _ rfl HT.out.1 HT.out.2.1 (b := w.heap.size + 2) (m := mapD L s.ds) (k := tx) (z := .pointer none) hMp HT.out.2.2 HV.out HQ.out rfl rfl ?_)))
      go_cut [11, 33] (fun s11 s33 wx => ∃ (L' : VLay) (tag' : Nat → Int × Nat), PSt tk tl wB wx (w.heap.size + 2) (w.heap.size + 1) [(wr.heap.size, 54, [.int .i64 tx, .int .i64 what, .int .i64 item]), (w.heap.size, 92, [.func (.func FS) bS cS, .func (.func FM) bM cM])] (openS s k tx) L' tag' ∧ L'.vd = L.vd ∧ s11 = .pointer (some ⟨L'.g tx, 0, none⟩))
      case first =>
        cases hd : dget s.ds tx with
        | some d =>
          have g0 := getI_mapD L s.ds tx
          rw [hd] at g0
          have q0 : (!q) = false := by rw [← HQ.out, g0]; rfl
          rw [q0]
          have v0 : v = .pointer (some ⟨L.g tx, 0, none⟩) := by
            rw [← HV.out, g0]
            show ptrD L d.tx = _
            rw [(dget_tx hd).1]; rfl
          have HPO := hide (show PSt tk tl wB _ _ _ _ (openS s k tx) L tag1 from by rw [(openS_has hd).1]; exact unhide HPh)
          have HV0 := Lib.hid v0
          clear HPh hd g0 v0 HV HQ
          go_wp2
          go_meet
          case rel => exact ⟨L, tag1, unhide HPO, rfl, HV0.out⟩
        | none =>
          have g0 := getI_mapD L s.ds tx
          rw [hd] at g0
          have q0 : (!q) = true := by rw [← HQ.out, g0]; rfl
          rw [q0]
          have hP1 := unhide HPh
          have hlB := hP1.heap.last
          rw [hP1.gl] at hlB
          have hl6 := HOK.out.last
          have hro := own_blk hlB (base := wB.heap.size) (size := 1) (n := 6) (by omega) (by decide) (by unfold cellsI; rw [List.length_map, hl6])
          have C9 := hide (clone_int (some ⟨w.heap.size + 1, 0, none⟩) 6 6 (cellsI s.last) (wr.alloc (.cells #[.int .i64 tx, .int .i64 what, .int .i64 item] 54)).drew (rd_own hro) (oneI _) (by omega))
          have HD := Lib.hid hd
          have HL6 := Lib.hid hl6
          have HMd := hide (fun w' (hb : Below (wr.alloc (.cells #[.int .i64 tx, .int .i64 what, .int .i64 item] 54)).heap.size (wr.alloc (.cells #[.int .i64 tx, .int .i64 what, .int .i64 item] 54)) w') => And.intro (hMp.below hb hMp.lt) (hO.below hb hO.lt))
          have hz0 : (wr.alloc (.cells #[.int .i64 tx, .int .i64 what, .int .i64 item] 54)).drew.heap.size = (wr.alloc (.cells #[.int .i64 tx, .int .i64 what, .int .i64 item] 54)).heap.size := rfl
          have hb0 : Below (wr.alloc (.cells #[.int .i64 tx, .int .i64 what, .int .i64 item] 54)).heap.size (wr.alloc (.cells #[.int .i64 tx, .int .i64 what, .int .i64 item] 54)) (wr.alloc (.cells #[.int .i64 tx, .int .i64 what, .int .i64 item] 54)).drew := (Below.refl _ _).drew
          clear hd g0 HV HQ hP1 hlB hl6 hro
          go_wp2
          have hbd := build_deal
          go_region_held3 (fun w' => w'.cell? ⟨wr.heap.size, 0, none⟩ = some (.int .i64 tx)) (first | exact e0 | exact e9 | go_keep)
            (first | (go_at_call 67; (with_reducible refine (unhide C9).mono ?_); rintro e w2 ⟨v2, rfl, ho2, hb2⟩; obtain ⟨A2, c2, rfl⟩ := own_slice ho2; have hbw2 := hb0.trans (hb2.mono (Nat.le_of_eq hz0.symm)); have e9 : w2.cell? ⟨wr.heap.size, 0, none⟩ = some (.int .i64 tx) := (unhide HMd w2 hbw2).2.cellS (i := 0) (v := .int .i64 tx) rfl; have hM2 := (unhide HMd w2 hbw2).1))
          clear hbd
          have hz2 := hbw2.size
          have hM3 := hM2.alloc (.cells #[.int .i64 tx, .int .i64 k, .int .i64 (-1), .slice none 0 0, .slice none 0 0, .slice A2 6 c2] 88)
          have hB3 := Blk.new w2 88 [.int .i64 tx, .int .i64 k, .int .i64 (-1), .slice none 0 0, .slice none 0 0, .slice A2 6 c2]
          have hbw3 : Below w2.heap.size w2 (w2.alloc (.cells #[.int .i64 tx, .int .i64 k, .int .i64 (-1), .slice none 0 0, .slice none 0 0, .slice A2 6 c2] 88)) := (Below.refl _ _).alloc (Nat.le_refl _) _
          have e9' : (w2.alloc (.cells #[.int .i64 tx, .int .i64 k, .int .i64 (-1), .slice none 0 0, .slice none 0 0, .slice A2 6 c2] 88)).cell? ⟨wr.heap.size, 0, none⟩ = some (.int .i64 tx) := ((unhide HMd w2 hbw2).2.alloc _).cellS (i := 0) (v := .int .i64 tx) rfl
          go_wp2_with (first
            | ((with_reducible show wpList _ _ _ _ _ _); (refine wpList_updateI rfl (.tmp 41) (.tmp 43) (.tmp 44) _ rfl HT.out.1 HT.out.2.1 (b := w.heap.size + 2) (m := mapD L s.ds) (k := tx) (u := .pointer (some ⟨w2.heap.size, 0, none⟩)) hM3 rfl rfl rfl ?_; intro w4 hM4 hg4)))
          obtain ⟨L', tag', hP4, hvd4, hgt4⟩ := (unhide HPh).new (k := k) HD.out HL6.out hbw2 ho2 hbw3 hB3 hM4 hg4
          go_meet
          case rel => exact ⟨L', tag', hP4, hvd4, by rw [hgt4]⟩
      case rest =>
      obtain ⟨L1, tg, hP2, hvd, rfl⟩ := hcut
      have hO2 := (hP2.temps _ List.mem_cons_self).1
      have hR2 := (hP2.temps _ (List.mem_cons_of_mem _ List.mem_cons_self)).1
      have htx := rightB_get HRO.out
      have hVK := openS_ok HOK.out (tx := tx) ⟨htx.1, htx.2.1⟩
      have hVK41 : VOk 41 (openS s k tx) := ⟨by have := hVK.dn; omega, hVK.last, by have := hVK.looks; omega, fun d hd => by
        have h := hVK.deals d hd
        exact ⟨by have := h.seen; omega, by have := h.wrote; omega, h.items, h.snap, h.tx, ⟨h.began.1, by have := h.began.2; omega⟩, ⟨h.ended.1, by have := h.ended.2; omega⟩⟩⟩
      have HVK := Lib.hid hVK41
      have HG := Lib.hid (openS_get s k tx)
      have HBT := Lib.hid (begD_tx s k tx)
      have HBL := Lib.hid (begD_ok HOK.out (tx := tx) ⟨htx.1, htx.2.1⟩)
      have HST : Hid (vstep R k ⟨tx, what, item⟩ s = if what = 1 then
          (if item ∈ (begD s k tx).wrote then { openS s k tx with ds := dput (openS s k tx).ds { begD s k tx with seen := (begD s k tx).seen ++ [⟨tx, item, tx⟩] } }
          else { openS s k tx with ds := dput (openS s k tx).ds { begD s k tx with seen := (begD s k tx).seen ++ [⟨tx, item, R.see (openS s k tx) (begD s k tx) item⟩] }, looks := R.look (openS s k tx) (begD s k tx) item })
        else if what = 2 then { openS s k tx with ds := dput (openS s k tx).ds { begD s k tx with wrote := (begD s k tx).wrote ++ [item] } }
        else if what = 3 then
          (if R.may (openS s k tx) (begD s k tx) = true then { openS s k tx with ds := dput (openS s k tx).ds { begD s k tx with ended := (k : Int) }, dn := (openS s k tx).dn ++ [tx], last := setsL tx (begD s k tx).wrote (openS s k tx).last }
          else openS s k tx)
        else openS s k tx) := Lib.hid (by unfold vstep; rfl)
      have HRT := Lib.hid htx
      have HPH := hide hP2
      have y0 := hO2.cellS (i := 0) (v := .int .i64 tx) rfl
      have y1 := hO2.cellS (i := 1) (v := .int .i64 what) rfl
      have y2 := hO2.cellS (i := 2) (v := .int .i64 item) rfl
      have r0 := hR2.cellS (i := 0) (v := .func (.func FS) bS cS) rfl
      have r1 := hR2.cellS (i := 1) (v := .func (.func FM) bM cM) rfl
      have hgm2 := HG.out
      have hDD := hP2.heap.deals _ (dget_tx HG.out).2
      have hBB := hDD.blk
      have hWW := hDD.wrote
      have hSS := hDD.seen
      rw [HBT.out] at hBB hWW hSS
      obtain ⟨Aw, cw, hvw⟩ := own_slice hWW
      obtain ⟨As, cs, hvs⟩ := own_slice hSS
      have m1 := hDD.wroteM
      have m2 := hDD.blkM
      have m3 := (hP2.temps _ List.mem_cons_self).2
      have m4 := hDD.seenM
      rw [HBT.out] at m1 m2 m4
      rw [hvw] at m1
      rw [hvs] at m4
      have NB := hide (fun j (hj : (Value.slice Aw (begD s k tx).wrote.length cw).ownBlock = some j) => show j ≠ L1.g tx ∧ j ≠ wr.heap.size from ⟨fun e => by
        have := m1 j hj
        rw [e, m2] at this
        injection this with _ e2
        omega, fun e => by
        have := m1 j hj
        rw [e, m3] at this
        injection this with _ e2
        omega⟩)
      have NS := hide (fun j (hj : (Value.slice As (begD s k tx).seen.length cs).ownBlock = some j) => show j ≠ L1.g tx ∧ j ≠ wr.heap.size from ⟨fun e => by
        have := m4 j hj
        rw [e, m2] at this
        injection this with _ e2
        omega, fun e => by
        have := m4 j hj
        rw [e, m3] at this
        injection this with _ e2
        omega⟩)
      clear m1 m2 m3 m4
      have hVW := Lib.hid hvw
      have hVS := Lib.hid hvs
      rw [hvw] at hWW
      rw [hvs] at hSS
      rw [hvw, hvs] at hBB
      have g3 := hBB.cellS (i := 3) (v := .slice As _ cs) rfl
      have g4 := hBB.cellS (i := 4) (v := .slice Aw _ cw) rfl
      have hwl := HBL.out.2.2.1
      have hsl := HBL.out.2.1
      clear hvw hvs hDD hgm2 htx hVK hVK41 HPh e0 e1 e2 c0 c1 c2 hMp hlo hO HV HQ HOK HRO
      rw [← hvd]
      clear hvd
      by_cases hw1 : what = 1
      · subst hw1
        go_upto_region 14 with fail
        have CI := hide (fun m => (icontains_rd Aw (begD s k tx).wrote.length cw (begD s k tx).wrote item (wc.drewN m) _ (show Rd (wc.drewN m) _ 1 _ _ _ from rd_own hWW) (by omega)).mono fun _ _ ⟨h1, h2⟩ => (And.intro h1 h2.symm))
        obtain ⟨iq, hiq⟩ : ∃ iq : Bool, decide (item ∈ (begD s k tx).wrote) = iq := ⟨_, rfl⟩
        rw [hiq] at CI
        have HIQ := Lib.hid hiq
        clear hiq
        have HPN := hide (fun m => (unhide HPH).below' (below_drewN (Below.refl _ wc) m))
        go_quiet ((go_at_call 65; exact Calls.quiet_of_same (unhide CI _)))
        clear CI
        go_upto_if 58 with fail
        go_cut [13, 58] (fun s13 s58 wx => ∃ (f : Int) (lk : List HOp) (L' : VLay) (tg' : Nat → Int × Nat), s13 = .int .i64 f ∧ PSt tk tl wB wx (w.heap.size + 2) (w.heap.size + 1) [(wr.heap.size, 54, [.int .i64 tx, .int .i64 1, .int .i64 item]), (w.heap.size, 92, [.func (.func FS) bS cS, .func (.func FM) bM cM])] { openS s k tx with looks := lk } L' tg' ∧ L'.vd = L1.vd ∧ L'.g = L1.g ∧ Hid (vstep R k ⟨tx, 1, item⟩ s = { openS s k tx with ds := dput (openS s k tx).ds { begD s k tx with seen := (begD s k tx).seen ++ [⟨tx, item, f⟩] }, looks := lk }))
        case first =>
          by_cases hin : item ∈ (begD s k tx).wrote
          · have q0 : (!iq) = false := by rw [← HIQ.out, decide_eq_true hin]; rfl
            rw [q0]
            have HS1 : Hid (vstep R k ⟨tx, 1, item⟩ s = { openS s k tx with ds := dput (openS s k tx).ds { begD s k tx with seen := (begD s k tx).seen ++ [⟨tx, item, tx⟩] } }) := Lib.hid (by rw [HST.out, if_pos rfl, if_pos hin])
            clear hin HST q0
            go_wp2
            go_meet
            case rel => exact ⟨tx, (openS s k tx).looks, L1, tg, rfl, unhide HPN _, rfl, rfl, HS1⟩
          · have q0 : (!iq) = true := by rw [← HIQ.out, decide_eq_false hin]; rfl
            rw [q0]
            have HS1 : Hid (vstep R k ⟨tx, 1, item⟩ s = { openS s k tx with ds := dput (openS s k tx).ds { begD s k tx with seen := (begD s k tx).seen ++ [⟨tx, item, R.see (openS s k tx) (begD s k tx) item⟩] }, looks := R.look (openS s k tx) (begD s k tx) item }) := Lib.hid (by rw [HST.out, if_pos rfl, if_neg hin])
            have C := hide (fun m => unhide HS (openS s k tx) L1 tg (wc.drewN m) (begD s k tx) item (unhide HPN m).heap HVK.out (dget_tx HG.out).2 (HRT.out.2.2.2.2.1 (by show (1 : Int) < 3; decide)).1 (HRT.out.2.2.2.2.1 (by show (1 : Int) < 3; decide)).2 (unhide HPN m).kp)
            rw [HBT.out] at C
            have hcS := HCS.out
            have hgl := hP2.gl
            rw [hgl] at C
            clear hin HST hgl q0
            go_wp2_with fail
            refine (unhide C _).mono ?_
            rintro e w3 ⟨rfl, L3, tg3, hL3⟩
            have hP3 := (unhide HPN _).looked hL3
            have hv3 := hL3.vd
            have hg3 := hL3.g
            clear C hcS hL3
            go_wp2
            go_meet
            case rel => exact ⟨_, _, L3, tg3, rfl, hP3, hv3, hg3, HS1⟩
        case rest =>
          obtain ⟨f, lk, L3, tg3, rfl, hP3, hv3, hg3, HS1⟩ := hcut
          clear HPN HIQ HST hP2 HPH hBB hWW hSS NB NS hVW hVS g3 g4 y0 y1 y2 r0 r1 hO2 hR2
          rw [← hv3]
          rw [← hg3]
          clear hv3 hg3 L1
          have hO2 := (hP3.temps _ List.mem_cons_self).1
          have y0 := hO2.cellS (i := 0) (v := .int .i64 tx) rfl
          have y2 := hO2.cellS (i := 2) (v := .int .i64 item) rfl
          have hDD := hP3.heap.deals _ (dget_tx HG.out).2
          have hBB := hDD.blk
          have hWW := hDD.wrote
          have hSS := hDD.seen
          rw [HBT.out] at hBB hWW hSS
          obtain ⟨Aw, cw, hvw⟩ := own_slice hWW
          obtain ⟨As, cs, hvs⟩ := own_slice hSS
          have m2 := hDD.blkM
          have m3 := (hP3.temps _ List.mem_cons_self).2
          have m4 := hDD.seenM
          rw [HBT.out] at m2 m4
          rw [hvs] at m4
          have NS := hide (fun j (hj : (Value.slice As (begD s k tx).seen.length cs).ownBlock = some j) => show j ≠ L3.g tx ∧ j ≠ wr.heap.size from ⟨fun e => by
            have := m4 j hj
            rw [e, m2] at this
            injection this with _ e2
            omega, fun e => by
            have := m4 j hj
            rw [e, m3] at this
            injection this with _ e2
            omega⟩)
          clear m2 m3 m4
          have hVW := Lib.hid hvw
          have hVS := Lib.hid hvs
          rw [hvs] at hSS
          rw [hvw, hvs] at hBB
          have g3 := hBB.cellS (i := 3) (v := .slice As _ cs) rfl
          have hsl := HBL.out.2.1
          have HPH := hide hP3
          have hlo2 := hP3.below.size
          clear hvw hvs hDD hWW hP3
          go_upto_region 16 with fail
          have hb1 : Below wc.heap.size wc wc.drew := (Below.refl _ _).drew
          have hBd := hBB.drew
          have hOd := hO2.drew
          refine wp_region_noPanic ?_
          refine wp_region_till (fun w' => Blk w' (L3.g tx) 88 [.int .i64 tx, .int .i64 (begD s k tx).began, .int .i64 (begD s k tx).ended, .slice As (begD s k tx).seen.length cs, .slice Aw (begD s k tx).wrote.length cw, L3.vp tx] ∧ Blk w' wr.heap.size 54 [.int .i64 tx, .int .i64 1, .int .i64 item]) 15 (by kernel_rfl) ⟨hBd, hOd⟩ (fun hS0 => ?_)
          refine wpTill_take 0 [14, 13, 0] (v := .pointer (some ⟨L3.g tx, 0, none⟩)) rfl (by kernel_rfl) (by kernel_rfl) (by kernel_rfl) (by kernel_rfl) (by kernel_rfl) (by kernel_rfl) (fun _ _ _ h => h) hS0 (by rfl) (fun w1 hS1 => by obtain ⟨s1, s2⟩ := hS1; have z3 := s1.cellS (i := 3) (v := .slice As _ cs) rfl; have z4 := s1.cellS (i := 4) (v := .slice Aw _ cw) rfl; have z0 := s2.cellS (i := 0) (v := .int .i64 tx) rfl; have z2 := s2.cellS (i := 2) (v := .int .i64 item) rfl; clear s1 s2; go_simp) ?_
          simp only [Act.put]
          refine wpTill_take 1 [12, 4, 3, 2, 1] (v := .pointer (some ⟨L3.g tx, 0, none⟩)) rfl (by kernel_rfl) (by kernel_rfl) (by kernel_rfl) (by kernel_rfl) (by kernel_rfl) (by kernel_rfl) (fun _ _ _ h => h) hS0 (by rfl) (fun w1 hS1 => by obtain ⟨s1, s2⟩ := hS1; have z3 := s1.cellS (i := 3) (v := .slice As _ cs) rfl; have z4 := s1.cellS (i := 4) (v := .slice Aw _ cw) rfl; have z0 := s2.cellS (i := 0) (v := .int .i64 tx) rfl; have z2 := s2.cellS (i := 2) (v := .int .i64 item) rfl; clear s1 s2; go_simp) ?_
          simp only [Act.put]
          refine wpTill_take 2 [12, 4, 3, 2] (v := .pointer (some ⟨L3.g tx, 0, none⟩)) rfl (by kernel_rfl) (by kernel_rfl) (by kernel_rfl) (by kernel_rfl) (by kernel_rfl) (by kernel_rfl) (fun _ _ _ h => h) hS0 (by rfl) (fun w1 hS1 => by obtain ⟨s1, s2⟩ := hS1; have z3 := s1.cellS (i := 3) (v := .slice As _ cs) rfl; have z4 := s1.cellS (i := 4) (v := .slice Aw _ cw) rfl; have z0 := s2.cellS (i := 0) (v := .int .i64 tx) rfl; have z2 := s2.cellS (i := 2) (v := .int .i64 item) rfl; clear s1 s2; go_simp) ?_
          simp only [Act.put]
          refine wpTill_take 3 [12, 4, 3] (v := .pointer (some ⟨L3.g tx, 3, none⟩)) rfl (by kernel_rfl) (by kernel_rfl) (by kernel_rfl) (by kernel_rfl) (by kernel_rfl) (by kernel_rfl) (fun _ _ _ h => h) hS0 (by rfl) (fun w1 hS1 => by obtain ⟨s1, s2⟩ := hS1; have z3 := s1.cellS (i := 3) (v := .slice As _ cs) rfl; have z4 := s1.cellS (i := 4) (v := .slice Aw _ cw) rfl; have z0 := s2.cellS (i := 0) (v := .int .i64 tx) rfl; have z2 := s2.cellS (i := 2) (v := .int .i64 item) rfl; clear s1 s2; go_simp) ?_
          simp only [Act.put]
          refine wpTill_take 4 [12, 4] (v := .slice As (begD s k tx).seen.length cs) rfl (by kernel_rfl) (by kernel_rfl) (by kernel_rfl) (by kernel_rfl) (by kernel_rfl) (by kernel_rfl) (fun _ _ _ h => h) hS0 (by rfl) (fun w1 hS1 => by obtain ⟨s1, s2⟩ := hS1; have z3 := s1.cellS (i := 3) (v := .slice As _ cs) rfl; have z4 := s1.cellS (i := 4) (v := .slice Aw _ cw) rfl; have z0 := s2.cellS (i := 0) (v := .int .i64 tx) rfl; have z2 := s2.cellS (i := 2) (v := .int .i64 item) rfl; clear s1 s2; go_simp) ?_
          simp only [Act.put]
          refine wpTill_take 5 [12, 11, 10, 6, 5] (v := .pointer (some ⟨wr.heap.size, 0, none⟩)) rfl (by kernel_rfl) (by kernel_rfl) (by kernel_rfl) (by kernel_rfl) (by kernel_rfl) (by kernel_rfl) (fun _ _ _ h => h) hS0 (by rfl) (fun w1 hS1 => by obtain ⟨s1, s2⟩ := hS1; have z3 := s1.cellS (i := 3) (v := .slice As _ cs) rfl; have z4 := s1.cellS (i := 4) (v := .slice Aw _ cw) rfl; have z0 := s2.cellS (i := 0) (v := .int .i64 tx) rfl; have z2 := s2.cellS (i := 2) (v := .int .i64 item) rfl; clear s1 s2; go_simp) ?_
          simp only [Act.put]
          refine wpTill_take 6 [12, 11, 10, 6] (v := .int .i64 tx) rfl (by kernel_rfl) (by kernel_rfl) (by kernel_rfl) (by kernel_rfl) (by kernel_rfl) (by kernel_rfl) (fun _ _ _ h => h) hS0 (by rfl) (fun w1 hS1 => by obtain ⟨s1, s2⟩ := hS1; have z3 := s1.cellS (i := 3) (v := .slice As _ cs) rfl; have z4 := s1.cellS (i := 4) (v := .slice Aw _ cw) rfl; have z0 := s2.cellS (i := 0) (v := .int .i64 tx) rfl; have z2 := s2.cellS (i := 2) (v := .int .i64 item) rfl; clear s1 s2; go_simp) ?_
          simp only [Act.put]
          refine wpTill_take 7 [12, 11, 10, 8, 7] (v := .pointer (some ⟨wr.heap.size, 2, none⟩)) rfl (by kernel_rfl) (by kernel_rfl) (by kernel_rfl) (by kernel_rfl) (by kernel_rfl) (by kernel_rfl) (fun _ _ _ h => h) hS0 (by rfl) (fun w1 hS1 => by obtain ⟨s1, s2⟩ := hS1; have z3 := s1.cellS (i := 3) (v := .slice As _ cs) rfl; have z4 := s1.cellS (i := 4) (v := .slice Aw _ cw) rfl; have z0 := s2.cellS (i := 0) (v := .int .i64 tx) rfl; have z2 := s2.cellS (i := 2) (v := .int .i64 item) rfl; clear s1 s2; go_simp) ?_
          simp only [Act.put]
          refine wpTill_take 8 [12, 11, 10, 8] (v := .int .i64 item) rfl (by kernel_rfl) (by kernel_rfl) (by kernel_rfl) (by kernel_rfl) (by kernel_rfl) (by kernel_rfl) (fun _ _ _ h => h) hS0 (by rfl) (fun w1 hS1 => by obtain ⟨s1, s2⟩ := hS1; have z3 := s1.cellS (i := 3) (v := .slice As _ cs) rfl; have z4 := s1.cellS (i := 4) (v := .slice Aw _ cw) rfl; have z0 := s2.cellS (i := 0) (v := .int .i64 tx) rfl; have z2 := s2.cellS (i := 2) (v := .int .i64 item) rfl; clear s1 s2; go_simp) ?_
          simp only [Act.put]
          refine wpTill_take 9 [12, 11, 10, 9] (v := .int .i64 f) rfl (by kernel_rfl) (by kernel_rfl) (by kernel_rfl) (by kernel_rfl) (by kernel_rfl) (by kernel_rfl) (fun _ _ _ h => h) hS0 (by rfl) (fun w1 hS1 => by obtain ⟨s1, s2⟩ := hS1; have z3 := s1.cellS (i := 3) (v := .slice As _ cs) rfl; have z4 := s1.cellS (i := 4) (v := .slice Aw _ cw) rfl; have z0 := s2.cellS (i := 0) (v := .int .i64 tx) rfl; have z2 := s2.cellS (i := 2) (v := .int .i64 item) rfl; clear s1 s2; go_simp) ?_
          simp only [Act.put]
          have hSd : wc.drew.ownsRow wB.heap.size 50 3 (.slice As (begD s k tx).seen.length cs) (begD s k tx).seen.length (cellsH (begD s k tx).seen) := hSS
          refine wpTill_one 10 rfl (by kernel_rfl) (fun K hK => ?_)
          have HK := Lib.hid hK
          clear hK
          go_simp
          refine HK.out _ _ (fun _ => ⟨hBd, hOd⟩) ?_
          clear HK K
          refine wpTill_one 11 rfl (by kernel_rfl) (fun K hK => ?_)
          have HK := Lib.hid hK
          clear hK
          go_simp
          refine HK.out _ _ (fun _ => ⟨hBd.alloc _, hOd.alloc _⟩) ?_
          clear HK K
          refine wpTill_one 12 rfl (by kernel_rfl) (fun K hK => ?_)
          have HK := Lib.hid hK
          clear hK
          refine step_app4 rfl (.tmp 71) (.tmp 78) _ rfl wB.heap.size slt_seen (n := (begD s k tx).seen.length) (xs := cellsH (begD s k tx).seen) (m := 1) (news := cellsH [⟨tx, item, f⟩]) rfl (own_alloc hSd _) rfl (rd_new' _ _ (cellsH [⟨tx, item, f⟩]) (by simp) rfl) (oneH _) (by omega) (by simp; omega) ?_
          intro v7 w7 hown7 hg7 hb7 hat7
          obtain ⟨A7, c7, rfl⟩ := own_slice hown7
          have q0 := (hBd.alloc (.cells (cellsH [⟨tx, item, f⟩]).toArray 50)).grown hg7 (fun j hj e => (unhide NS j hj).1 e.symm)
          have q1 := (hOd.alloc (.cells (cellsH [⟨tx, item, f⟩]).toArray 50)).grown hg7 (fun j hj e => (unhide NS j hj).2 e.symm)
          have k0 := q0.cellS (i := 3) (v := .slice As _ cs) rfl
          have k1 := q0.frozen 3
          refine HK.out _ _ (fun _ => ⟨q0, q1⟩) ?_
          clear HK K
          simp only [Act.put]
          refine wpTill_one 13 rfl (by kernel_rfl) (fun K hK => ?_)
          have HK := Lib.hid hK
          clear hK
          go_simp
          refine HK.out _ _ (fun _ => ⟨q0, q1⟩) ?_
          clear HK K
          refine wpTill_one 14 rfl (by kernel_rfl) (fun K hK => ?_)
          have HK := Lib.hid hK
          clear hK
          go_simp
          refine HK.out _ _ (fun _ => ⟨q0, q1⟩) ?_
          clear HK K
          refine wpTill_one 15 rfl (by kernel_rfl) (fun K hK => ?_)
          have HK := Lib.hid hK
          clear hK
          go_simp
          refine HK.out _ _ (fun h => absurd rfl h) ?_
          clear HK K
          refine wpTill_done (by kernel_rfl) (NoPanic.normal ?_) _
          have e1 : cellsH (begD s k tx).seen ++ cellsH [⟨tx, item, f⟩] = cellsH ((begD s k tx).seen ++ [⟨tx, item, f⟩]) := by simp [cellsH]
          rw [e1] at hown7
          have hb8 : Below wc.heap.size wc (wc.drew.alloc (.cells (cellsH [⟨tx, item, f⟩]).toArray 50)) := hb1.alloc (Nat.le_refl _) _
          obtain ⟨L4, tg4, hP4, hv4, _⟩ := (unhide HPH).seen (d := begD s k tx) (by rw [HBT.out]; exact HG.out) ⟨tx, item, f⟩ hb8 hown7 (by rw [HBT.out, hVS.out]; exact hg7) (by rw [HBT.out, hVS.out]; exact hat7)
          have hP5 : PSt tk tl wB (w7.setCell ⟨L3.g tx, 3, none⟩ (.slice A7 ((begD s k tx).seen.length + 1) c7)) (w.heap.size + 2) (w.heap.size + 1) [(w.heap.size, 92, [.func (.func FS) bS cS, .func (.func FM) bM cM])] (vstep R k ⟨tx, 1, item⟩ s) L4 tg4 := by
            rw [HS1.out, show (⟨L3.g tx, 3, none⟩ : Addr) = ⟨L3.g (begD s k tx).tx, 3, none⟩ from by rw [HBT.out]]
            exact hP4.drop
          have HP5 := hide hP5
          clear hP4 hP5
          clear q0 q1 k0 k1 hg7 hb7 hat7 hown7 hBd hOd hSd
          go_wp2
          go_roundw
          case rel => exact ⟨k + 1, _, L4, tg4, by omega, by go_num, hv4.symm, unhide HP5, HOK2, HE2⟩
          case measure => simp [intOf]; omega
      · by_cases hw2 : what = 2
        · subst hw2
          go_upto_region 18 with fail
          have hDn := Lib.hid hWW.1
          have hb1 : Below wc.heap.size wc wc.drew := (Below.refl _ _).drew
          have hlo2 := hP2.below.size
          have hBd := hBB.drew
          have hOd := hO2.drew
          refine wp_region_noPanic ?_
          refine wp_region_till (fun w' => Blk w' (L1.g tx) 88 [.int .i64 tx, .int .i64 (begD s k tx).began, .int .i64 (begD s k tx).ended, .slice As (begD s k tx).seen.length cs, .slice Aw (begD s k tx).wrote.length cw, L1.vp tx] ∧ Blk w' wr.heap.size 54 [.int .i64 tx, .int .i64 2, .int .i64 item]) 11 (by kernel_rfl) ⟨hBd, hOd⟩ (fun hS0 => ?_)
          refine wpTill_take 0 [10, 9, 0] (v := .pointer (some ⟨L1.g tx, 0, none⟩)) rfl (by kernel_rfl) (by kernel_rfl) (by kernel_rfl) (by kernel_rfl) (by kernel_rfl) (by kernel_rfl) (fun _ _ _ h => h) hS0 (by rfl) (fun w1 hS1 => by obtain ⟨s1, s2⟩ := hS1; have z3 := s1.cellS (i := 3) (v := .slice As _ cs) rfl; have z4 := s1.cellS (i := 4) (v := .slice Aw _ cw) rfl; have z0 := s2.cellS (i := 0) (v := .int .i64 tx) rfl; have z2 := s2.cellS (i := 2) (v := .int .i64 item) rfl; clear s1 s2; go_simp) ?_
          simp only [Act.put]
          refine wpTill_take 1 [8, 4, 3, 2, 1] (v := .pointer (some ⟨L1.g tx, 0, none⟩)) rfl (by kernel_rfl) (by kernel_rfl) (by kernel_rfl) (by kernel_rfl) (by kernel_rfl) (by kernel_rfl) (fun _ _ _ h => h) hS0 (by rfl) (fun w1 hS1 => by obtain ⟨s1, s2⟩ := hS1; have z3 := s1.cellS (i := 3) (v := .slice As _ cs) rfl; have z4 := s1.cellS (i := 4) (v := .slice Aw _ cw) rfl; have z0 := s2.cellS (i := 0) (v := .int .i64 tx) rfl; have z2 := s2.cellS (i := 2) (v := .int .i64 item) rfl; clear s1 s2; go_simp) ?_
          simp only [Act.put]
          refine wpTill_take 2 [8, 4, 3, 2] (v := .pointer (some ⟨L1.g tx, 0, none⟩)) rfl (by kernel_rfl) (by kernel_rfl) (by kernel_rfl) (by kernel_rfl) (by kernel_rfl) (by kernel_rfl) (fun _ _ _ h => h) hS0 (by rfl) (fun w1 hS1 => by obtain ⟨s1, s2⟩ := hS1; have z3 := s1.cellS (i := 3) (v := .slice As _ cs) rfl; have z4 := s1.cellS (i := 4) (v := .slice Aw _ cw) rfl; have z0 := s2.cellS (i := 0) (v := .int .i64 tx) rfl; have z2 := s2.cellS (i := 2) (v := .int .i64 item) rfl; clear s1 s2; go_simp) ?_
          simp only [Act.put]
          refine wpTill_take 3 [8, 4, 3] (v := .pointer (some ⟨L1.g tx, 4, none⟩)) rfl (by kernel_rfl) (by kernel_rfl) (by kernel_rfl) (by kernel_rfl) (by kernel_rfl) (by kernel_rfl) (fun _ _ _ h => h) hS0 (by rfl) (fun w1 hS1 => by obtain ⟨s1, s2⟩ := hS1; have z3 := s1.cellS (i := 3) (v := .slice As _ cs) rfl; have z4 := s1.cellS (i := 4) (v := .slice Aw _ cw) rfl; have z0 := s2.cellS (i := 0) (v := .int .i64 tx) rfl; have z2 := s2.cellS (i := 2) (v := .int .i64 item) rfl; clear s1 s2; go_simp) ?_
          simp only [Act.put]
          refine wpTill_take 4 [8, 4] (v := .slice Aw (begD s k tx).wrote.length cw) rfl (by kernel_rfl) (by kernel_rfl) (by kernel_rfl) (by kernel_rfl) (by kernel_rfl) (by kernel_rfl) (fun _ _ _ h => h) hS0 (by rfl) (fun w1 hS1 => by obtain ⟨s1, s2⟩ := hS1; have z3 := s1.cellS (i := 3) (v := .slice As _ cs) rfl; have z4 := s1.cellS (i := 4) (v := .slice Aw _ cw) rfl; have z0 := s2.cellS (i := 0) (v := .int .i64 tx) rfl; have z2 := s2.cellS (i := 2) (v := .int .i64 item) rfl; clear s1 s2; go_simp) ?_
          simp only [Act.put]
          refine wpTill_take 5 [8, 7, 6, 5] (v := .pointer (some ⟨wr.heap.size, 2, none⟩)) rfl (by kernel_rfl) (by kernel_rfl) (by kernel_rfl) (by kernel_rfl) (by kernel_rfl) (by kernel_rfl) (fun _ _ _ h => h) hS0 (by rfl) (fun w1 hS1 => by obtain ⟨s1, s2⟩ := hS1; have z3 := s1.cellS (i := 3) (v := .slice As _ cs) rfl; have z4 := s1.cellS (i := 4) (v := .slice Aw _ cw) rfl; have z0 := s2.cellS (i := 0) (v := .int .i64 tx) rfl; have z2 := s2.cellS (i := 2) (v := .int .i64 item) rfl; clear s1 s2; go_simp) ?_
          simp only [Act.put]
          refine wpTill_take 6 [8, 7, 6] (v := .int .i64 item) rfl (by kernel_rfl) (by kernel_rfl) (by kernel_rfl) (by kernel_rfl) (by kernel_rfl) (by kernel_rfl) (fun _ _ _ h => h) hS0 (by rfl) (fun w1 hS1 => by obtain ⟨s1, s2⟩ := hS1; have z3 := s1.cellS (i := 3) (v := .slice As _ cs) rfl; have z4 := s1.cellS (i := 4) (v := .slice Aw _ cw) rfl; have z0 := s2.cellS (i := 0) (v := .int .i64 tx) rfl; have z2 := s2.cellS (i := 2) (v := .int .i64 item) rfl; clear s1 s2; go_simp) ?_
          simp only [Act.put]
          have hWd : wc.drew.ownsRow wB.heap.size 3 1 (.slice Aw (begD s k tx).wrote.length cw) (begD s k tx).wrote.length (cellsI (begD s k tx).wrote) := hWW
          refine wpTill_one 7 rfl (by kernel_rfl) (fun K hK => ?_)
          have HK := Lib.hid hK
          clear hK
          go_simp
          refine HK.out _ _ (fun _ => ⟨hBd.alloc _, hOd.alloc _⟩) ?_
          clear HK K
          refine wpTill_one 8 rfl (by kernel_rfl) (fun K hK => ?_)
          have HK := Lib.hid hK
          clear hK
          refine step_app4 rfl (.tmp 88) (.tmp 91) _ rfl wB.heap.size slt_ints (n := (begD s k tx).wrote.length) (xs := cellsI (begD s k tx).wrote) (m := 1) (news := cellsI [item]) rfl (own_alloc hWd _) rfl (rd_new' _ _ (cellsI [item]) (by simp) rfl) (oneI _) (by omega) (by simp; omega) ?_
          intro v7 w7 hown7 hg7 hb7 hat7
          obtain ⟨A7, c7, rfl⟩ := own_slice hown7
          have q0 := (hBd.alloc (.cells (cellsI [item]).toArray 3)).grown hg7 (fun j hj e => (unhide NB j hj).1 e.symm)
          have q1 := (hOd.alloc (.cells (cellsI [item]).toArray 3)).grown hg7 (fun j hj e => (unhide NB j hj).2 e.symm)
          have k0 := q0.cellS (i := 4) (v := .slice Aw _ cw) rfl
          have k1 := q0.frozen 4
          refine HK.out _ _ (fun _ => ⟨q0, q1⟩) ?_
          clear HK K
          simp only [Act.put]
          refine wpTill_one 9 rfl (by kernel_rfl) (fun K hK => ?_)
          have HK := Lib.hid hK
          clear hK
          go_simp
          refine HK.out _ _ (fun _ => ⟨q0, q1⟩) ?_
          clear HK K
          refine wpTill_one 10 rfl (by kernel_rfl) (fun K hK => ?_)
          have HK := Lib.hid hK
          clear hK
          go_simp
          refine HK.out _ _ (fun _ => ⟨q0, q1⟩) ?_
          clear HK K
          refine wpTill_one 11 rfl (by kernel_rfl) (fun K hK => ?_)
          have HK := Lib.hid hK
          clear hK
          go_simp
          refine HK.out _ _ (fun h => absurd rfl h) ?_
          clear HK K
          refine wpTill_done (by kernel_rfl) (NoPanic.normal ?_) _
          have e1 : cellsI (begD s k tx).wrote ++ cellsI [item] = cellsI ((begD s k tx).wrote ++ [item]) := by simp [cellsI]
          rw [e1] at hown7
          have hb8 : Below wc.heap.size wc (wc.drew.alloc (.cells (cellsI [item]).toArray 3)) := hb1.alloc (Nat.le_refl _) _
          obtain ⟨L4, tg4, hP4, hv4, _⟩ := (unhide HPH).wrote (d := begD s k tx) (by rw [HBT.out]; exact HG.out) item hb8 hown7 (by rw [HBT.out, hVW.out]; exact hg7) (by rw [HBT.out, hVW.out]; exact hat7)
          have hP5 : PSt tk tl wB (w7.setCell ⟨L1.g tx, 4, none⟩ (.slice A7 ((begD s k tx).wrote.length + 1) c7)) (w.heap.size + 2) (w.heap.size + 1) [(w.heap.size, 92, [.func (.func FS) bS cS, .func (.func FM) bM cM])] (vstep R k ⟨tx, 2, item⟩ s) L4 tg4 := by
            rw [HST.out, if_neg hw1, if_pos rfl, show (⟨L1.g tx, 4, none⟩ : Addr) = ⟨L1.g (begD s k tx).tx, 4, none⟩ from by rw [HBT.out]]
            exact hP4.drop
          have HP5 := hide hP5
          clear hP4 hP5
          clear q0 q1 k0 k1 hg7 hb7 hat7 hown7 hBd hOd hWd
          go_wp2
          go_roundw
          case rel => exact ⟨k + 1, _, L4, tg4, by omega, by go_num, hv4.symm, unhide HP5, HOK2, HE2⟩
          case measure => simp [intOf]; omega
        · by_cases hw3 : what = 3
          · subst hw3
            have C := hide (unhide HM (openS s k tx) L1 tg wc (begD s k tx) hP2.heap HVK.out (dget_tx HG.out).2 hP2.kp)
            rw [HBT.out] at C
            have hcM := HCM.out
            go_wp2_with fail
            refine (unhide C).mono ?_
            rintro e w3 ⟨rfl, hb3⟩
            clear C hcM
            cases hm : R.may (openS s k tx) (begD s k tx)
            · have HP5 := hide (show PSt tk tl wB w3 (w.heap.size + 2) (w.heap.size + 1) [(w.heap.size, 92, [.func (.func FS) bS cS, .func (.func FM) bM cM])] (vstep R k ⟨tx, 3, item⟩ s) L1 tg from by
                rw [HST.out, if_neg hw1, if_neg hw2, if_pos trivial, if_neg (by rw [hm]; simp)]
                exact ((unhide HPH).below' hb3).drop)
              clear hm
              go_wp2
              go_roundw
              case rel => exact ⟨k + 1, _, L1, tg, by omega, by go_num, rfl, unhide HP5, HOK2, HE2⟩
              case measure => simp [intOf]; omega
            · obtain ⟨wo, rfl⟩ : ∃ wo : World, wo = wr := ⟨_, rfl⟩
              have hlB := HBL.out.1.items
              have hP3 := (unhide HPH).below' hb3
              have hB3 := hBB.below hb3 hBB.lt
              have f2 := hB3.frozen 2
              have f3 := hB3.cellS (i := 2) (v := .int .i64 (begD s k tx).ended) rfl
              have y0' := (hP3.temps _ List.mem_cons_self).1.cellS (i := 0) (v := .int .i64 tx) rfl
              have hPe := hP3.ended (d := begD s k tx) (by rw [HBT.out]; exact HG.out) (k : Int)
              rw [show (⟨L1.g (begD s k tx).tx, 2, none⟩ : Addr) = ⟨L1.g tx, 2, none⟩ from by rw [HBT.out]] at hPe
              have hdn := hPe.heap.done
              have hdl : (openS s k tx).dn.length ≤ 41 := HVK.out.dn
              obtain ⟨Ad, cd, hvd⟩ := own_slice hdn
              rw [hvd] at hdn ⊢
              have HVD := Lib.hid hvd
              have HPE := hide hPe
              have hbs := hPe.below.size
              have hbs3 := hP3.below.size
              have hex := openS_mem s k tx
              have HEX := Lib.hid (show tx ∈ ({ openS s k tx with ds := dput (openS s k tx).ds { begD s k tx with ended := (k : Int) } } : VSt).ds.map (·.tx) from by
                show tx ∈ (dput (openS s k tx).ds { begD s k tx with ended := (k : Int) }).map (·.tx)
                rw [dput_txs]
                split
                · exact hex
                · exact List.mem_append_right _ (by rw [List.mem_singleton]; exact HBT.out.symm))
              have HS1 : Hid (vstep R k ⟨tx, 3, item⟩ s = { openS s k tx with ds := dput (openS s k tx).ds { begD s k tx with ended := (k : Int) }, dn := (openS s k tx).dn ++ [tx], last := setsL tx (begD s k tx).wrote (openS s k tx).last }) := Lib.hid (by rw [HST.out, if_neg hw1, if_neg hw2, if_pos trivial, if_pos hm])
              clear hm HST hvd hPe hex hP3 HM HPH NB NS hSS hWW hBB g3 g4 y0 y1 y2 hP2
              have hown2 : ((w3.setCell ⟨L1.g tx, 2, none⟩ (.int .i64 k)).alloc (.cells #[.pointer (some ⟨L1.g tx, 0, none⟩)] 84)).ownsRow wB.heap.size 84 1 (.slice Ad (openS s k tx).dn.length cd) (openS s k tx).dn.length ((openS s k tx).dn.map (ptrD L1)) := own_alloc hdn _
              go_wp2_with (at_builtin; (refine wpList_app rfl _ _ _ rfl wB.heap.size slt_deals (n := (openS s k tx).dn.length) (xs := (openS s k tx).dn.map (ptrD L1)) (m := 1) (news := [.pointer (some ⟨L1.g tx, 0, none⟩)]) rfl hown2 rfl (rd_new' _ _ [.pointer (some ⟨L1.g tx, 0, none⟩)] (by simp) rfl) (by simp [Value.oneCell']) (by omega) (by simp; omega) ?_; intro v5 w5 hown5 hg5 hb5 hat5 hne5; (have hbA : Below (w3.setCell ⟨L1.g tx, 2, none⟩ (.int .i64 k)).heap.size (w3.setCell ⟨L1.g tx, 2, none⟩ (.int .i64 k)) ((w3.setCell ⟨L1.g tx, 2, none⟩ (.int .i64 k)).alloc (.cells #[.pointer (some ⟨L1.g tx, 0, none⟩)] 84)) := (Below.refl _ _).alloc (Nat.le_refl _) _); obtain ⟨tg5, hP5⟩ := (unhide HPE).doneAdd (t := tx) HEX.out hbA hown5 (by rw [HVD.out]; exact hg5) (by rw [HVD.out]; exact hat5); have hD5 := hP5.heap.deals { begD s k tx with ended := (k : Int) } (mem_dput_self _ _); have hB5 := hD5.blk; (change Blk w5 (L1.g (begD s k tx).tx) _ [.int .i64 (begD s k tx).tx, .int .i64 (begD s k tx).began, .int .i64 k, L1.vs (begD s k tx).tx, L1.vw (begD s k tx).tx, L1.vp (begD s k tx).tx] at hB5); rw [HBT.out, hVW.out] at hB5; have g4 := hB5.cellS (i := 4) (v := .slice Aw _ cw) rfl))
              have HL0 := Lib.hid HVK.out.last
              go_loopw [116] (fun s116 wr => ∃ (j : Nat) (la : List Int) (tg6 : Nat → Int × Nat), j ≤ (begD s k tx).wrote.length ∧ s116 = .int .i64 j ∧ PSt tk tl wB wr (w.heap.size + 2) (w.heap.size + 1) [(wo.heap.size, 54, [.int .i64 tx, .int .i64 3, .int .i64 item]), (w.heap.size, 92, [.func (.func FS) bS cS, .func (.func FM) bM cM])] { openS s k tx with ds := dput (openS s k tx).ds { begD s k tx with ended := (k : Int) }, dn := (openS s k tx).dn ++ [tx], last := la } { L1 with vd := v5 } tg6 ∧ la.length = 6 ∧ Hid (setsL tx (begD s k tx).wrote (openS s k tx).last = setsL tx ((begD s k tx).wrote.drop j) la)) (fun s116 _ => (begD s k tx).wrote.length - (intOf s116).toNat)
              case atStart => exact ⟨0, _, tg5, Nat.zero_le _, rfl, hP5, HL0.out, Lib.hid rfl⟩
              case round =>
                obtain ⟨j, la, tg6, hj, rfl, hP6, hla, HLA⟩ := hrel
                by_cases hlt2 : j < (begD s k tx).wrote.length
                · have hD6 := hP6.heap.deals { begD s k tx with ended := (k : Int) } (mem_dput_self _ _)
                  have hW6 := hD6.wrote
                  (change wr.ownsRow _ _ _ (L1.vw (begD s k tx).tx) (begD s k tx).wrote.length (cellsI (begD s k tx).wrote) at hW6)
                  rw [HBT.out, hVW.out] at hW6
                  obtain ⟨b4, off4, i, he4, hb4, hi4, c4⟩ := (rd_own hW6).int (k := j) hlt2
                  cases he4
                  have hit := hlB i (List.mem_of_getElem? hi4)
                  obtain ⟨jj, hjj⟩ : ∃ jj : Nat, i.toNat - 1 = jj := ⟨_, rfl⟩
                  have i1 : IntKind.i64.wrap (i - 1) = (jj : Int) := by
                    rw [show i - 1 = (jj : Int) by omega]; exact IntWalk.i64_in _ (by omega)
                  have i2 : (0 : Int) ≤ (jj : Int) := by omega
                  have i3 : (jj : Int) < 6 := by omega
                  have i4 : (jj : Int) < ((6 : Nat) : Int) := by omega
                  have hBl := hP6.heap.last
                  (change Blk wr L1.gl _ (cellsI la) at hBl)
                  have hgl := hP6.gl
                  (change L1.gl = _ at hgl)
                  rw [hgl] at hBl
                  have fz := hBl.frozen jj
                  have fc := hBl.cellS (i := jj) (v := .int .i64 la[jj]) (by unfold cellsI; rw [List.getElem?_map, List.getElem?_eq_getElem (by omega)]; rfl)
                  have y0 := (hP6.temps _ List.mem_cons_self).1.cellS (i := 0) (v := .int .i64 tx) rfl
                  have hP7 := hP6.lastSet jj tx
                  have HLA2 : Hid (setsL tx (begD s k tx).wrote (openS s k tx).last = setsL tx ((begD s k tx).wrote.drop (j + 1)) (la.set jj tx)) := Lib.hid (by rw [HLA.out, drop_at hi4, setsL, hjj])
                  have hla2 : (la.set jj tx).length = 6 := by rw [List.length_set]; exact hla
                  have HP7 := hide hP7
                  clear hP6 hP7 hD6 hW6 HLA
                  go_wp2
                  go_roundw
                  case rel => exact ⟨j + 1, _, tg6, by omega, by go_num, unhide HP7, hla2, HLA2⟩
                  case measure => simp [intOf]; omega
                · have HP7 := hide (show PSt tk tl wB wr (w.heap.size + 2) (w.heap.size + 1) [(w.heap.size, 92, [.func (.func FS) bS cS, .func (.func FM) bM cM])] (vstep R k ⟨tx, 3, item⟩ s) { L1 with vd := v5 } tg6 from by
                    rw [HS1.out, HLA.out, drop_end (by omega)]
                    exact hP6.drop)
                  clear hP6 HLA
                  go_wp2
                  go_roundw
                  case rel => exact ⟨k + 1, _, { L1 with vd := v5 }, tg6, by omega, by go_num, rfl, unhide HP7, HOK2, HE2⟩
                  case measure => simp [intOf]; omega
          · have t1 : (what == 1) = false := by simpa using hw1
            have t2 : (what == 2) = false := by simpa using hw2
            have t3 : (what == 3) = false := by simpa using hw3
            have HE3 : Hid (playV R h = vrun R (k + 1) (h.drop (k + 1)) (openS s k tx)) := Lib.hid (by rw [HE2.out, HST.out, if_neg hw1, if_neg hw2, if_neg hw3])
            have HK3 : Hid (VOk (k + 1) (openS s k tx)) := Lib.hid (by have h := HOK2.out; rw [HST.out, if_neg hw1, if_neg hw2, if_neg hw3] at h; exact h)
            go_wp2
            go_roundw
            case rel => exact ⟨k + 1, openS s k tx, L1, tg, by omega, by go_num, rfl, (unhide HPH).drop, HK3, HE3⟩
            case measure => simp [intOf]; omega
    · have HE2 : Hid (playV R h = s) := Lib.hid (by rw [HE.out, drop_end (by rw [HL.out]; omega)]; rfl)
      obtain rfl : k = n := by omega
      have hgl := hP.gl
      go_wp2
      go_ret2
      exact ⟨L, tag, rfl, by rw [HE2.out]; exact hP.drop, by rw [HE2.out]; exact HOK.out⟩
end Go.Proofs.YtmehghkpghbpjaaGreat
