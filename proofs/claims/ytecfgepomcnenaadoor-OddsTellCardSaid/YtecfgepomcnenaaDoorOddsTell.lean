
/-
  PROVED: lanelaw1.OddsTell returns true, for every two histories and every number: which ops of any history are at odds, which deals, what two that change places make, and whether two histories are the same but for that, as the document's answer has them. The variable errors.errorType starts as the program's text lays it (the card's tie); no condition beyond the form's own reach.
-/
import Derived.Test.YtecfgepomcnenaaDoorRAlike
import Derived.Test.YtecfgepomcnenaaDoorREdges
import Derived.Test.YtecfgepomcnenaaDoorEdgesOf
import Derived.Test.YtecfgepomcnenaaDoorEdgesS
import Derived.Test.YtecfgepomcnenaaDoorSameH
import Derived.Test.YtecfgepomcnenaaDoorRef
import Derived.Test.YtecfgepomcnenaaDoorOpen
import Derived.Test.YtecfgepomcnenaaDoorDoor
import Derived.Deep.DeepCutAuto
namespace Go.Proofs.YtecfgepomcnenaaDoor.oddsTell
open Go.ChangeShapes Go.WideShapes Go.ChangeAt Go.RowKit Go.Proofs.YtecfgepomcnenaaDoor

/-! ### The plain law: what two that change places make. -/
def swE (h : List HOp) (i : Int) : Int := if i < 0 ∨ (h.length : Int) - 1 ≤ i then 1 else
  match h[i.toNat]?, h[i.toNat + 1]? with
  | some a, some b => if a.tx = b.tx ∨ oddB a b = true then 7 else 0
  | _, _ => 0
def swL (h : List HOp) (i : Int) : List HOp := if swE h i = 0 then swapL h i.toNat else []
theorem sw_range {h : List HOp} {i : Int} (hi : i < 0 ∨ (h.length : Int) - 1 ≤ i) : swE h i = 1 ∧ swL h i = [] := by
  have e : swE h i = 1 := by unfold swE; rw [if_pos hi]
  exact ⟨e, by unfold swL; rw [e]; rfl⟩
theorem sw_clash {h : List HOp} {k : Nat} {a b : HOp} (ha : h[k]? = some a) (hb : h[k + 1]? = some b) (hc : a.tx = b.tx ∨ oddB a b = true) : swE h k = 7 ∧ swL h k = [] := by
  have hl := (List.getElem?_eq_some_iff.1 hb).1
  have e : swE h k = 7 := by
    unfold swE
    rw [if_neg (by omega), Int.toNat_natCast, ha, hb]
    simp only
    rw [if_pos hc]
  exact ⟨e, by unfold swL; rw [e]; rfl⟩
theorem sw_ok {h : List HOp} {k : Nat} {a b : HOp} (ha : h[k]? = some a) (hb : h[k + 1]? = some b) (hc : ¬ (a.tx = b.tx ∨ oddB a b = true)) : swE h k = 0 ∧ swL h k = (h.set k b).set (k + 1) a := by
  have hl := (List.getElem?_eq_some_iff.1 hb).1
  have e : swE h k = 0 := by
    unfold swE
    rw [if_neg (by omega), Int.toNat_natCast, ha, hb]
    simp only
    rw [if_neg hc]
  refine ⟨e, ?_⟩
  unfold swL
  rw [e, if_pos rfl, Int.toNat_natCast]
  unfold swapL
  rw [ha, hb]
theorem swap_any (A : Option Addr) (n cap : Nat) (h : List HOp) (i : Int) (w : World) (hr : Rd w w.heap.size 3 A n (cellsH h)) (hok : okH h) :
    Calls Tryd.prog 13 #[.slice A n cap, .int .i64 i] w fun e w' => ∃ A' m c', e = .returned (.tuple #[.slice A' m c', errV (swE h i)]) ∧ Rd w' w'.heap.size 3 A' m (cellsH (swL h i)) ∧ Below w.heap.size w w' := by
  have hl := hr.hlen
  by_cases hi : i < 0 ∨ (n : Int) - 1 ≤ i
  · obtain ⟨e1, e2⟩ := sw_range (h := h) (i := i) (by rw [hl]; exact hi)
    rw [e1, e2]
    refine (swap_range A n cap h i w hr hok hi).mono ?_
    rintro e w' ⟨rfl, hb⟩
    exact ⟨none, 0, 0, rfl, Rd.nil, hb⟩
  · obtain ⟨k, rfl⟩ : ∃ k : Nat, i = k := ⟨i.toNat, by omega⟩
    have hk : k + 1 < n := by omega
    have ha : h[k]? = some (h[k]'(by omega)) := List.getElem?_eq_getElem _
    have hb : h[k + 1]? = some (h[k + 1]'(by omega)) := List.getElem?_eq_getElem _
    generalize h[k]'(by omega) = a at *
    generalize h[k + 1]'(by omega) = b at *
    by_cases hc : a.tx = b.tx ∨ oddB a b = true
    · obtain ⟨e1, e2⟩ := sw_clash ha hb hc
      rw [e1, e2]
      refine (swap_clash A n cap h k w hr hok hk a b ha hb hc).mono ?_
      rintro e w' ⟨rfl, hb⟩
      exact ⟨none, 0, 0, rfl, Rd.nil, hb⟩
    · obtain ⟨e1, e2⟩ := sw_ok ha hb hc
      have e3 : swapL h k = (h.set k b).set (k + 1) a := by unfold swapL; rw [ha, hb]
      rw [e1, e2, errV_zero]
      refine (swap_ok A n cap h k w hr hok hk a b ha hb (fun e => hc (.inl e)) (by simpa using fun e => hc (.inr e))).mono ?_
      rintro e w' ⟨v, rfl, ho, hb'⟩
      obtain ⟨A', c', rfl⟩ := own_slice ho
      rw [e3] at ho
      exact ⟨_, _, _, rfl, rd_own ho, hb'⟩

/-! ### The walk: ops that are wrong. -/
def Fin (w : World) (e : Ending) (w' : World) : Prop := e = .returned (.bool true) ∧ Below w.heap.size w w'
set_option maxRecDepth 100000 in
set_option maxHeartbeats 8000000 in
theorem walk_no (A B : Option Addr) (n c m d : Nat) (h g : List HOp) (i : Int) (w : World) (hE : Et w) (hr : Rd w w.heap.size 3 A n (cellsH h)) (hg : Rd w w.heap.size 3 B m (cellsH g)) (hn : n ≤ 6000000000000) (hm : m ≤ 6000000000000) (hno : ¬ okH h) :
    Calls Tryd.prog 3 #[.slice A n c, .int .i64 i, .slice B m d] w (Fin w) := by
  have hz0 := hE.pos
  have HE := hide hE
  have HR := hide (fun w1 (hb : Below w.heap.size w w1) => (hr.below hb).more hb.size)
  have HG := hide (fun w1 (hb : Below w.heap.size w w1) => (hg.below hb).more hb.size)
  have CR := hide (rright_any A n c h w hr hn)
  have CE := hide (fun w1 (hb : Below w.heap.size w w1) => error_same (checkF h).2 w1 ((unhide HE).below hb hz0))
  have CP := hide (fun w1 (hb : Below w.heap.size w w1) => pairs_no A n c h w1 (unhide HR w1 hb) hn hno)
  have CG := hide (fun w1 (hb : Below w.heap.size w w1) => edges_no A n c h w1 (unhide HR w1 hb) hn hno)
  have CS := hide (fun w1 (hb : Below w.heap.size w w1) => swap_no A n c h i w1 (unhide HR w1 hb) hn hno)
  have CM := hide (fun w1 (hb : Below w.heap.size w w1) => same_any A B n m c d h g w1 (unhide HR w1 hb) (unhide HG w1 hb) hn hm)
  have e1 : sameV h g = false := by unfold sameV; simp [show ¬ (checkF h).2 = 0 from hno]
  have e2 : sameE h g = (checkF h).2 := by unfold sameE; simp [show ¬ (checkF h).2 = 0 from hno]
  rw [e1, e2] at CM
  have CQ := hide (fun (w1 : World) => edgesS_any none none 0 0 0 0 [] [] w1 Rd.nil Rd.nil (by omega))
  have CO := hide (fun (w1 : World) => ops_any none none 0 0 0 0 [] [] w1 Rd.nil Rd.nil (by omega))
  have q0 : ((checkF h).2 == 0) = false := by simpa using (show (checkF h).2 ≠ 0 from hno)
  generalize (checkF h).2 = ev at *
  clear hE hr hg hno e1 e2
  go_enter Tryd.func3, Tryd.ntmps3
  go_wp2_with fail
  refine (unhide CR).mono ?_
  rintro e w1 ⟨rfl, hb1⟩
  clear CR
  by_cases hn0 : 0 < n
  all_goals
    go_wp2
    go_loopw [8, 11] (fun s8 s11 wr => s8 = .slice none 0 0 ∧ s11 = .int .i64 0 ∧ wr = w1) (fun _ _ _ => 0)
    case atStart => exact ⟨rfl, rfl, rfl⟩
    case round =>
      obtain ⟨rfl, rfl, rfl⟩ := hrel
      have C1 := hide (unhide CP _ hb1)
      go_wp2_with fail
      refine (unhide C1).mono ?_
      rintro e w2 ⟨rfl, hb2⟩
      have hbw2 := hb1.trans (hb2.mono hb1.size)
      have C2 := hide (unhide CE w2 hbw2)
      clear C1 CP hb2
      go_wp2_with fail
      refine (unhide C2).mono ?_
      rintro e w3 ⟨rfl, hb3⟩
      have hbw3 := hbw2.trans (hb3.mono hbw2.size)
      have C3 := hide (unhide CQ w3)
      clear C2 hb3 hbw2
      go_wp2_with fail
      refine (unhide C3).mono ?_
      rintro e w4 ⟨rfl, hb4⟩
      have hbw4 := hbw3.trans (hb4.mono hbw3.size)
      have C4 := hide (unhide CG w4 hbw4)
      clear C3 hb4 hbw3 CG
      go_wp2_with fail
      refine (unhide C4).mono ?_
      rintro e w5 ⟨rfl, hb5⟩
      have hbw5 := hbw4.trans (hb5.mono hbw4.size)
      have C5 := hide (unhide CE w5 hbw5)
      clear C4 hb5 hbw4
      go_wp2_with fail
      refine (unhide C5).mono ?_
      rintro e w6 ⟨rfl, hb6⟩
      have hbw6 := hbw5.trans (hb6.mono hbw5.size)
      have C6 := hide (unhide CQ w6)
      clear C5 hb6 hbw5 CQ
      go_wp2_with fail
      refine (unhide C6).mono ?_
      rintro e w7 ⟨rfl, hb7⟩
      have hbw7 := hbw6.trans (hb7.mono hbw6.size)
      have C7 := hide (unhide CS w7 hbw7)
      clear C6 hb7 hbw6 CS
      go_wp2_with fail
      refine (unhide C7).mono ?_
      rintro e w8 ⟨rfl, hb8⟩
      have hbw8 := hbw7.trans (hb8.mono hbw7.size)
      have C8 := hide (unhide CE w8 hbw8)
      clear C7 hb8 hbw7
      go_wp2_with fail
      refine (unhide C8).mono ?_
      rintro e w9 ⟨rfl, hb9⟩
      have hbw9 := hbw8.trans (hb9.mono hbw8.size)
      have C9 := hide (unhide CO w9)
      clear C8 hb9 hbw8 CO
      go_wp2_with fail
      refine (unhide C9).mono ?_
      rintro e w10 ⟨rfl, hb10⟩
      have hbw10 := hbw9.trans (hb10.mono hbw9.size)
      have C10 := hide (unhide CM w10 hbw10)
      clear C9 hb10 hbw9 CM
      go_wp2_with fail
      refine (unhide C10).mono ?_
      rintro e w11 ⟨rfl, hb11⟩
      have hbw11 := hbw10.trans (hb11.mono hbw10.size)
      have C11 := hide (unhide CE w11 hbw11)
      clear C10 hb11 hbw10 CE
      go_wp2_with fail
      refine (unhide C11).mono ?_
      rintro e w12 ⟨rfl, hb12⟩
      have hbw12 := hbw11.trans (hb12.mono hbw11.size)
      go_wp2
      go_ret
      exact ⟨rfl, hbw12⟩

/-! ### The walk: ops that are right. -/
theorem ocell3 {w : World} {g : Nat} {u0 u1 u2 : Value} {p0 p1 p2 q : Addr} (h0 : q ≠ p0) (h1 : q ≠ p1) (h2 : q ≠ p2) : (((w.setCell p0 u0).setCell p1 u1).setCell p2 u2).cell? q = w.cell? q := by
  rw [World.cell?_setCell_other _ _ _ _ (Ne.symm h2), World.cell?_setCell_other _ _ _ _ (Ne.symm h1), World.cell?_setCell_other _ _ _ _ (Ne.symm h0)]
set_option maxRecDepth 100000 in
set_option maxHeartbeats 16000000 in
theorem walk_ok (A B : Option Addr) (n c m d : Nat) (h g : List HOp) (i : Int) (w : World) (hE : Et w) (hr : Rd w w.heap.size 3 A n (cellsH h)) (hg : Rd w w.heap.size 3 B m (cellsH g)) (hm : m ≤ 6000000000000) (hcap : n ≤ c) (hok : okH h) :
    Calls Tryd.prog 3 #[.slice A n c, .int .i64 i, .slice B m d] w (Fin w) := by
  have hz0 := hE.pos
  have HE := hide hE
  have hn40 : n ≤ 40 := by rw [← hr.hlen]; exact okH_len hok
  have HLH := Lib.hid hr.hlen
  have hit : ∀ o ∈ h, 0 ≤ o.item := fun o ho => by
    obtain ⟨_, _, _, _, h5, h6⟩ := rightB_get (okH_right hok o ho)
    by_cases hw : o.what < 3
    · have := h5 hw; omega
    · have := h6 (by omega); omega
  have HIT := Lib.hid hit
  have HR := hide (fun w1 (hb : Below w.heap.size w w1) => (hr.below hb).more hb.size)
  have HRd := hide (fun w1 (hb : Below w.heap.size w w1) => hr.below hb)
  have HG := hide (fun w1 (hb : Below w.heap.size w w1) => (hg.below hb).more hb.size)
  have CR := rright_any A n c h w hr (by omega)
  rw [show (checkF h).2 = 0 from hok] at CR
  have CR := hide CR
  have CRg := hide (fun w1 (hb : Below w.heap.size w w1) => rright_any B m d g w1 (unhide HG w1 hb) hm)
  have CE := hide (fun x w1 (hb : Below w.heap.size w w1) => error_same x w1 ((unhide HE).below hb hz0))
  have CE0 := hide (fun w1 (hb : Below w.heap.size w w1) => unhide CE 0 w1 hb)
  rw [errV_zero] at CE0
  have CP := hide (fun w1 (hb : Below w.heap.size w w1) => pairs_ok A n c h w1 (unhide HR w1 hb) hok)
  have CG := hide (fun w1 (hb : Below w.heap.size w w1) => edges_any A n c h w1 (unhide HR w1 hb) (by omega) hok)
  have CRE := hide (fun w1 (hb : Below w.heap.size w w1) => redges_any A n c h w1 (unhide HR w1 hb) hok)
  have CS := hide (fun w1 (hb : Below w.heap.size w w1) => swap_any A n c h i w1 (unhide HR w1 hb) hok)
  have CM := hide (fun w1 (hb : Below w.heap.size w w1) => same_any A B n m c d h g w1 (unhide HR w1 hb) (unhide HG w1 hb) (by omega) hm)
  have e2 : sameE h g = (checkF g).2 := by unfold sameE; simp [show (checkF h).2 = 0 from hok]
  rw [e2] at CM
  have HV0 : Hid ((checkF g).2 ≠ 0 → sameV h g = false) := Lib.hid (fun e => by unfold sameV; simp [e])
  have HV1 : Hid ((checkF g).2 = 0 → sameV h g = alikeB h g) := Lib.hid (fun e => by unfold sameV; simp [e, show (checkF h).2 = 0 from hok])
  have CRA := hide (fun w1 (hb : Below w.heap.size w w1) (hg0 : (checkF g).2 = 0) => ralike_any A B n m c d h g w1 (unhide HR w1 hb) (unhide HG w1 hb) hcap hok (by have := okH_len (h := g) hg0; rw [hg.hlen] at this; omega))
  have HSR := Lib.hid (fun (hi : i < 0 ∨ (n : Int) - 1 ≤ i) => sw_range (h := h) (i := i) (by rw [hr.hlen]; exact hi))
  clear hE hr hg hok hit e2
  generalize (checkF g).2 = eg at *
  go_enter Tryd.func3, Tryd.ntmps3
  go_wp2_with fail
  refine (unhide CR).mono ?_
  rintro e w1 ⟨rfl, hb1⟩
  clear CR
  go_wp2
  go_loopw [8, 11, 12, 13] (fun s8 s11 _ _ wr => ∃ (k p : Nat) (acc : List (Int × Int)), k ≤ n ∧ s11 = .int .i64 k ∧ wr.ownsRow w.heap.size 29 2 s8 p (dcells acc) ∧ p ≤ k * 40 ∧ Hid (pairsL h = acc ++ pairsGo k (h.drop k)) ∧ Below w.heap.size w wr) (fun _ s11 _ _ _ => n - (intOf s11).toNat)
  case atStart => exact ⟨0, 0, [], Nat.zero_le _, rfl, World.ownsRow_nil _ _ _ _, Nat.zero_le _, rfl, hb1⟩
  case round =>
    clear hb1
    obtain ⟨k, p, acc, hk, rfl, ho8, hpk, HX, hbw⟩ := hrel
    obtain ⟨A8, c8, rfl⟩ := own_slice ho8
    by_cases hlt : k < n
    · have hoi : h[k]? = some (h[k]'(by rw [HLH.out]; exact hlt)) := List.getElem?_eq_getElem _
      generalize h[k]'(by rw [HLH.out]; exact hlt) = a at *
      have HOI := Lib.hid hoi
      have ha0 := HIT.out a (List.mem_of_getElem? hoi)
      have HX2 := Lib.hid (HX.out.trans (congrArg (acc ++ ·) (pairsGo_step (drop_at hoi))))
      clear hoi HX
      obtain ⟨wo, rfl⟩ : ∃ wo : World, wo = wr := ⟨_, rfl⟩
      go_wp2
      go_loopw [8, 12, 13] (fun s8 s12 _ wx => ∃ (j p : Nat) (acc : List (Int × Int)), k + 1 ≤ j ∧ j ≤ n ∧ s12 = .int .i64 j ∧ wx.ownsRow w.heap.size 29 2 s8 p (dcells acc) ∧ p ≤ k * 40 + j ∧ Hid (pairsL h = acc ++ (pairsAt a k j (h.drop j) ++ pairsGo (k + 1) (h.drop (k + 1)))) ∧ Below w.heap.size w wx) (fun _ s12 _ _ => n - (intOf s12).toNat)
      case atStart => exact ⟨k + 1, p, acc, Nat.le_refl _, by omega, by go_num, ho8, by omega, HX2, hbw⟩
      case round =>
        clear HX2 ho8 hbw hpk
        obtain ⟨j, p, acc, hj1, hj2, rfl, ho8, hpj, HX, hbw⟩ := hrel
        obtain ⟨A8, c8, rfl⟩ := own_slice ho8
        by_cases hlj : j < n
        · obtain ⟨b, off, o1, he, hb, ho1, c0, c1', c2⟩ := (unhide HRd wr hbw).op (k := k) hlt
          cases he
          rw [HOI.out] at ho1
          cases ho1
          obtain ⟨_, _, o2, he, _, ho2, d0, d1, d2⟩ := (unhide HRd wr hbw).op (k := j) hlj
          cases he
          have HX2 := Lib.hid (HX.out.trans (congrArg (fun z => acc ++ (z ++ pairsGo (k + 1) (h.drop (k + 1)))) (pairsAt_step (a := a) (i := k) (k := j) (drop_at ho2))))
          clear ho2 HX
          have CA := hide (rodds_any a o2 ha0 wr.drew)
          have hwz : wr.drew.heap.size = wr.heap.size := rfl
          obtain ⟨p1, p2, p3⟩ := o2
          obtain ⟨a1, a2, a3⟩ := a
          simp only at c0 c1' c2 d0 d1 d2
          have n0 : (0 : Int) ≤ (k : Int) := by omega
          have n1 : (k : Int) < (n : Int) := by omega
          have n2 : (0 : Int) ≤ (j : Int) := by omega
          have n3 : (j : Int) < (n : Int) := by omega
          generalize oddB ⟨a1, a2, a3⟩ ⟨p1, p2, p3⟩ = q at *
          have hbd : Below w.heap.size w wr.drew := hbw.drew
          have hod : wr.drew.ownsRow w.heap.size 29 2 (.slice A8 p c8) p (dcells acc) := ho8
          unfold HOp.val at CA
          simp only at CA
          go_wp2
          go_still_tail 8, (by kernel_rfl)
          change wpList _ _ _ _ _ wr.drew
          go_wp2_with fail
          refine (unhide CA).mono ?_
          rintro e wy ⟨rfl, hby⟩
          have hbwy := hbd.trans (hby.mono hbd.size)
          have hoy := own_below hod hby (Nat.le_refl _)
          clear hby hbw hbd CA hwz c0 c1' c2 d0 d1 d2 hod ho8
          cases q
          · have HX3 : Hid (pairsL h = acc ++ (pairsAt ⟨a1, a2, a3⟩ k (j + 1) (h.drop (j + 1)) ++ pairsGo (k + 1) (h.drop (k + 1)))) := Lib.hid (by rw [HX2.out]; simp)
            clear HX2
            go_wp2
            go_roundw
            case rel => exact ⟨j + 1, p, acc, by omega, by omega, by go_num, hoy, by omega, HX3, hbwy⟩
            case measure => simp [intOf]; omega
          · have HX3 : Hid (pairsL h = acc ++ [((k : Int), (j : Int))] ++ (pairsAt ⟨a1, a2, a3⟩ k (j + 1) (h.drop (j + 1)) ++ pairsGo (k + 1) (h.drop (k + 1)))) := Lib.hid (by rw [HX2.out]; simp)
            have hz := hbwy.size
            clear HX2
            go_wp2_with (at_builtin; (refine wpList_app rfl (.tmp 55) (.tmp 59) _ rfl w.heap.size slt_edge (n := p) (xs := dcells acc) (m := 1) (news := dcells [((k : Int), (j : Int))]) rfl (own_alloc hoy _) rfl (rd_new' _ _ (dcells [((k : Int), (j : Int))]) (by simp) rfl) (oneD _) (by omega) (by simp; omega) ?_; intro v5 w5 hown5 hg5 hb5 hat5 hne5))
            rw [← dcells_append] at hown5
            have hbw5 := (hbwy.alloc hz (.cells (dcells [((k : Int), (j : Int))]).toArray 29)).trans hb5
            go_roundw
            case rel => exact ⟨j + 1, p + 1, _, by omega, by omega, by go_num, hown5, by omega, HX3, hbw5⟩
            case measure => simp [intOf]; omega
        · have HX2 : Hid (pairsL h = acc ++ pairsGo (k + 1) (h.drop (k + 1))) := Lib.hid (by
            have e : h.drop j = [] := drop_end (by rw [HLH.out]; omega)
            rw [HX.out, e, pairsAt, List.nil_append])
          clear HX
          go_wp2
          go_roundw
          case rel => exact ⟨k + 1, p, acc, by omega, by go_num, ho8, by omega, HX2, hbw⟩
          case measure => simp [intOf]; omega
    · have HF : Hid (acc = pairsL h) := Lib.hid (by rw [HX.out, drop_end (by rw [HLH.out]; omega)]; simp [pairsGo])
      have hd8 := rd_own ho8
      rw [HF.out] at hd8
      have K1 := hide (fun w' (hb : Below wr.heap.size wr w') => And.intro (hbw.trans (hb.mono hbw.size)) ((hd8.below hb).more hb.size))
      have C1 := hide (unhide CRE wr hbw)
      clear ho8 hd8 hbw HX HF
      go_wp2_with fail
      refine (unhide C1).mono ?_
      rintro e w2 ⟨A9, m9, c9, rfl, hd9, hm9, hb2⟩
      have K2 := hide (fun w' (hb : Below w2.heap.size w2 w') => And.intro (unhide K1 w' (hb2.trans (hb.mono hb2.size))) ((hd9.below hb).more hb.size))
      have C2 := hide (unhide CP w2 (unhide K2 w2 (Below.refl _ _)).1.1)
      clear C1 K1 hb2 hd9 CRE CP
      go_wp2_with fail
      refine (unhide C2).mono ?_
      rintro e w3 ⟨v3, m3, rfl, ho3, hm3, hb3⟩
      obtain ⟨A3, c3, rfl⟩ := own_slice ho3
      have hd3 := rd_own ho3
      have K3 := hide (fun w' (hb : Below w3.heap.size w3 w') => And.intro (unhide K2 w' (hb3.trans (hb.mono hb3.size))) ((hd3.below hb).more hb.size))
      have C3 := hide (unhide CE0 w3 (unhide K3 w3 (Below.refl _ _)).1.1.1)
      clear C2 K2 hb3 hd3 ho3
      go_wp2_with fail
      refine (unhide C3).mono ?_
      rintro e w4 ⟨rfl, hb4⟩
      have k4 := unhide K3 w4 hb4
      have C4 := hide (edgesS_any A3 A8 m3 p c3 c8 (pairsL h) (pairsL h) w4 k4.2 k4.1.1.2 (by omega))
      rw [decide_eq_true rfl] at C4
      clear k4 C3
      go_wp2_with fail
      refine (unhide C4).mono ?_
      rintro e w5 ⟨rfl, hb5⟩
      have hb35 := hb4.trans (hb5.mono hb4.size)
      have k5 := unhide K3 w5 hb35
      have hbw5 := k5.1.1.1
      have hd9 := k5.1.2
      have C5 := hide (unhide CG w5 hbw5)
      clear k5 C4 K3 hb4 hb5 hb35 CG
      go_wp2_with fail
      refine (unhide C5).mono ?_
      rintro e w6 ⟨v6, m6, rfl, ho6, hm6, hb6⟩
      obtain ⟨A6, c6, rfl⟩ := own_slice ho6
      have hd6 := rd_own ho6
      have hd96 := (hd9.below hb6).more hb6.size
      have hbw6 := hbw5.trans (hb6.mono hbw5.size)
      have C6 := hide (unhide CE0 w6 hbw6)
      clear C5 hb6 ho6 hd9 hbw5
      go_wp2_with fail
      refine (unhide C6).mono ?_
      rintro e w7 ⟨rfl, hb7⟩
      have C7 := hide (edgesS_any A6 A9 m6 m9 c6 c9 (edgesF h) (edgesF h) w7 ((hd6.below hb7).more hb7.size) ((hd96.below hb7).more hb7.size) (by omega))
      rw [decide_eq_true rfl] at C7
      have hbw7 := hbw6.trans (hb7.mono hbw6.size)
      clear C6 hb7 hd6 hd96 hbw6
      go_wp2_with fail
      refine (unhide C7).mono ?_
      rintro e w8 ⟨rfl, hb8⟩
      have hbw8 := hbw7.trans (hb8.mono hbw7.size)
      clear C7 hb8 hbw7
      by_cases hi : i < 0 ∨ (n : Int) - 1 ≤ i
      · obtain ⟨f1, f2⟩ := HSR.out hi
        rw [f1, f2] at CS
        have hd10 : Rd w8 w8.heap.size 3 none 0 (cellsH []) := Rd.nil
        have hbwc := hbw8
        clear f1 f2 HSR
        rcases Int.lt_or_le i 0 with h0 | h0
        · have t0 : decide (i < 0) = true := by simpa using h0
          have C8 := hide (unhide CS _ hbwc)
          have HL10 := Lib.hid hd10.hlen
          have hm10 : 0 ≤ 40 := by omega
          have CE' := hide (fun w1 hb => unhide CE (1) w1 hb)
          clear hbw8 CS
          go_wp2_with fail
          refine (unhide C8).mono ?_
          rintro e w9 ⟨A20, m20, c20, rfl, hd20, hb9⟩
          have hbw9 := hbwc.trans (hb9.mono hbwc.size)
          have hd109 := (hd10.below hb9).more hb9.size
          have hm20 : m20 ≤ 40 := by rw [← hd20.hlen, HL10.out]; exact hm10
          have C9 := hide (unhide CE' w9 hbw9)
          clear C8 hb9 hd10 hbwc
          go_wp2_with fail
          refine (unhide C9).mono ?_
          rintro e w10 ⟨rfl, hb10⟩
          have hbw10 := hbw9.trans (hb10.mono hbw9.size)
          have C10 := hide (ops_any A20 none m20 0 c20 0 ([]) ([]) w10 ((hd20.below hb10).more hb10.size) ((hd109.below hb10).more hb10.size) (by omega))
          rw [decide_eq_true rfl] at C10
          clear C9 hb10 hd20 hd109 hbw9
          go_wp2_with fail
          refine (unhide C10).mono ?_
          rintro e w11 ⟨rfl, hb11⟩
          have hbw11 := hbw10.trans (hb11.mono hbw10.size)
          have C11 := hide (unhide CRg w11 hbw11)
          clear C10 hb11 hbw10 CRg
          go_wp2_with fail
          refine (unhide C11).mono ?_
          rintro e w12 ⟨rfl, hb12⟩
          have hbw12 := hbw11.trans (hb12.mono hbw11.size)
          clear C11 hb12 hbw11
          have CEg := hide (fun w1 hb => unhide CE eg w1 hb)
          by_cases hg0 : eg = 0
          · have C12 := hide (unhide CRA w12 hbw12 hg0)
            have CMg := CM
            rw [HV1.out hg0] at CMg
            have qq : (alikeB h g == alikeB h g) = true := by simp
            generalize alikeB h g = al at *
            subst hg0
            clear HV0 HV1 CM CRA
            go_wp2_with fail
            refine (unhide C12).mono ?_
            rintro e w13 ⟨rfl, hb13⟩
            have hbw13 := hbw12.trans (hb13.mono hbw12.size)
            have C13 := hide (unhide CMg w13 hbw13)
            clear C12 hb13 hbw12 CMg
            go_wp2_with fail
            refine (unhide C13).mono ?_
            rintro e w14 ⟨rfl, hb14⟩
            have hbw14 := hbw13.trans (hb14.mono hbw13.size)
            have C14 := hide (unhide CEg w14 hbw14)
            clear C13 hb14 hbw13 CEg
            go_wp2_with fail
            refine (unhide C14).mono ?_
            rintro e w15 ⟨rfl, hb15⟩
            have hbw15 := hbw14.trans (hb15.mono hbw14.size)
            go_wp2
            go_ret
            exact ⟨rfl, hbw15⟩
          · have C13 := hide (unhide CM w12 hbw12)
            rw [HV0.out hg0] at C13
            have q0 : (eg == 0) = false := by simpa using hg0
            clear hg0 HV0 HV1 CM CRA
            go_wp2_with fail
            refine (unhide C13).mono ?_
            rintro e w14 ⟨rfl, hb14⟩
            have hbw14 := hbw12.trans (hb14.mono hbw12.size)
            have C14 := hide (unhide CEg w14 hbw14)
            clear C13 hb14 hbw12 CEg
            go_wp2_with fail
            refine (unhide C14).mono ?_
            rintro e w15 ⟨rfl, hb15⟩
            have hbw15 := hbw14.trans (hb15.mono hbw14.size)
            go_wp2
            go_ret
            exact ⟨rfl, hbw15⟩
        · have t0 : decide (i < 0) = false := by simpa using h0
          have t1 : decide (i ≥ (n : Int) - 1) = true := decide_eq_true (by omega)
          have C8 := hide (unhide CS _ hbwc)
          have HL10 := Lib.hid hd10.hlen
          have hm10 : 0 ≤ 40 := by omega
          have CE' := hide (fun w1 hb => unhide CE (1) w1 hb)
          clear hbw8 CS
          go_wp2_with fail
          refine (unhide C8).mono ?_
          rintro e w9 ⟨A20, m20, c20, rfl, hd20, hb9⟩
          have hbw9 := hbwc.trans (hb9.mono hbwc.size)
          have hd109 := (hd10.below hb9).more hb9.size
          have hm20 : m20 ≤ 40 := by rw [← hd20.hlen, HL10.out]; exact hm10
          have C9 := hide (unhide CE' w9 hbw9)
          clear C8 hb9 hd10 hbwc
          go_wp2_with fail
          refine (unhide C9).mono ?_
          rintro e w10 ⟨rfl, hb10⟩
          have hbw10 := hbw9.trans (hb10.mono hbw9.size)
          have C10 := hide (ops_any A20 none m20 0 c20 0 ([]) ([]) w10 ((hd20.below hb10).more hb10.size) ((hd109.below hb10).more hb10.size) (by omega))
          rw [decide_eq_true rfl] at C10
          clear C9 hb10 hd20 hd109 hbw9
          go_wp2_with fail
          refine (unhide C10).mono ?_
          rintro e w11 ⟨rfl, hb11⟩
          have hbw11 := hbw10.trans (hb11.mono hbw10.size)
          have C11 := hide (unhide CRg w11 hbw11)
          clear C10 hb11 hbw10 CRg
          go_wp2_with fail
          refine (unhide C11).mono ?_
          rintro e w12 ⟨rfl, hb12⟩
          have hbw12 := hbw11.trans (hb12.mono hbw11.size)
          clear C11 hb12 hbw11
          have CEg := hide (fun w1 hb => unhide CE eg w1 hb)
          by_cases hg0 : eg = 0
          · have C12 := hide (unhide CRA w12 hbw12 hg0)
            have CMg := CM
            rw [HV1.out hg0] at CMg
            have qq : (alikeB h g == alikeB h g) = true := by simp
            generalize alikeB h g = al at *
            subst hg0
            clear HV0 HV1 CM CRA
            go_wp2_with fail
            refine (unhide C12).mono ?_
            rintro e w13 ⟨rfl, hb13⟩
            have hbw13 := hbw12.trans (hb13.mono hbw12.size)
            have C13 := hide (unhide CMg w13 hbw13)
            clear C12 hb13 hbw12 CMg
            go_wp2_with fail
            refine (unhide C13).mono ?_
            rintro e w14 ⟨rfl, hb14⟩
            have hbw14 := hbw13.trans (hb14.mono hbw13.size)
            have C14 := hide (unhide CEg w14 hbw14)
            clear C13 hb14 hbw13 CEg
            go_wp2_with fail
            refine (unhide C14).mono ?_
            rintro e w15 ⟨rfl, hb15⟩
            have hbw15 := hbw14.trans (hb15.mono hbw14.size)
            go_wp2
            go_ret
            exact ⟨rfl, hbw15⟩
          · have C13 := hide (unhide CM w12 hbw12)
            rw [HV0.out hg0] at C13
            have q0 : (eg == 0) = false := by simpa using hg0
            clear hg0 HV0 HV1 CM CRA
            go_wp2_with fail
            refine (unhide C13).mono ?_
            rintro e w14 ⟨rfl, hb14⟩
            have hbw14 := hbw12.trans (hb14.mono hbw12.size)
            have C14 := hide (unhide CEg w14 hbw14)
            clear C13 hb14 hbw12 CEg
            go_wp2_with fail
            refine (unhide C14).mono ?_
            rintro e w15 ⟨rfl, hb15⟩
            have hbw15 := hbw14.trans (hb15.mono hbw14.size)
            go_wp2
            go_ret
            exact ⟨rfl, hbw15⟩
      · obtain ⟨k', rfl⟩ : ∃ k' : Nat, i = k' := ⟨i.toNat, by omega⟩
        have hk1 : k' + 1 < n := by omega
        obtain ⟨b, off, a, he, hb, ha, c0, c1', c2⟩ := (unhide HRd w8 hbw8).op (k := k') (by omega)
        cases he
        obtain ⟨_, _, b2, he, _, hb2, d0, d1, d2⟩ := (unhide HRd w8 hbw8).op (k := k' + 1) (by omega)
        cases he
        have ha0 := HIT.out a (List.mem_of_getElem? ha)
        have CA := hide (rodds_any a b2 ha0 w8.drew)
        have hwz : w8.drew.heap.size = w8.heap.size := rfl
        have hbd : Below w.heap.size w w8.drew := hbw8.drew
        have t0 : decide ((k' : Int) < 0) = false := decide_eq_false (by omega)
        have t1 : decide ((k' : Int) ≥ (n : Int) - 1) = false := decide_eq_false (by omega)
        have hw1 : IntKind.i64.wrap ((k' : Int) + 1) = (k' : Int) + 1 := IntWalk.i64_in _ (by omega)
        have n0 : (0 : Int) ≤ (k' : Int) := by omega
        have n1 : (k' : Int) < (n : Int) := by omega
        have n2 : (0 : Int) ≤ (k' : Int) + 1 := by omega
        have n3 : (k' : Int) + 1 < (n : Int) := by omega
        have n4 : ((k' : Int) + 1).toNat = k' + 1 := by omega
        have HA := Lib.hid ha
        have HB := Lib.hid hb2
        have HCL := Lib.hid (fun hc => sw_clash (h := h) (k := k') ha hb2 hc)
        have HOKK := Lib.hid (fun hc => sw_ok (h := h) (k := k') ha hb2 hc)
        clear ha hb2 hi HSR HIT
        obtain ⟨a1, a2, a3⟩ := a
        obtain ⟨p1, p2, p3⟩ := b2
        simp only at c0 c1' c2 d0 d1 d2
        obtain ⟨q, hq⟩ : ∃ q, oddB ⟨a1, a2, a3⟩ ⟨p1, p2, p3⟩ = q := ⟨_, rfl⟩
        have HQ := Lib.hid hq
        rw [hq] at CA
        unfold HOp.val at CA
        simp only at CA
        clear hq
        go_wp2
        go_still_tail 9, (by kernel_rfl)
        change wpList _ _ _ _ _ w8.drew
        go_wp2_with fail
        refine (unhide CA).mono ?_
        rintro e w9 ⟨rfl, hb9⟩
        have hbw9 := hbd.trans (hb9.mono hbd.size)
        clear hb9 hbd CA hwz c0 c1' c2 d0 d1 d2
        obtain ⟨_, _, o1, he, _, ho1, c0, _, _⟩ := (unhide HRd w9 hbw9).op (k := k') (by omega)
        cases he
        rw [HA.out] at ho1
        cases ho1
        obtain ⟨_, _, o2, he, _, ho2, d0, _, _⟩ := (unhide HRd w9 hbw9).op (k := k' + 1) (by omega)
        cases he
        rw [HB.out] at ho2
        cases ho2
        cases q
        · by_cases htx : a1 = p1
          · obtain ⟨f1, f2⟩ := HCL.out (.inl htx)
            rw [f1, f2] at CS
            subst htx
            have t2 : (a1 == a1) = true := by simp
            clear f1 f2 HCL HOKK
            go_wp2
            go_quiet (fail)
            have hbwc := below_drewN hbw9 nq
            have hd10 : Rd (w9.drewN nq) (w9.drewN nq).heap.size 3 none 0 (cellsH []) := Rd.nil
            have C8 := hide (unhide CS _ hbwc)
            have HL10 := Lib.hid hd10.hlen
            have hm10 : 0 ≤ 40 := by omega
            have CE' := hide (fun w1 hb => unhide CE (7) w1 hb)
            clear hbw8 CS
            go_wp2_with fail
            refine (unhide C8).mono ?_
            rintro e w9 ⟨A20, m20, c20, rfl, hd20, hb9⟩
            have hbw9 := hbwc.trans (hb9.mono hbwc.size)
            have hd109 := (hd10.below hb9).more hb9.size
            have hm20 : m20 ≤ 40 := by rw [← hd20.hlen, HL10.out]; exact hm10
            have C9 := hide (unhide CE' w9 hbw9)
            clear C8 hb9 hd10 hbwc
            go_wp2_with fail
            refine (unhide C9).mono ?_
            rintro e w10 ⟨rfl, hb10⟩
            have hbw10 := hbw9.trans (hb10.mono hbw9.size)
            have C10 := hide (ops_any A20 none m20 0 c20 0 ([]) ([]) w10 ((hd20.below hb10).more hb10.size) ((hd109.below hb10).more hb10.size) (by omega))
            rw [decide_eq_true rfl] at C10
            clear C9 hb10 hd20 hd109 hbw9
            go_wp2_with fail
            refine (unhide C10).mono ?_
            rintro e w11 ⟨rfl, hb11⟩
            have hbw11 := hbw10.trans (hb11.mono hbw10.size)
            have C11 := hide (unhide CRg w11 hbw11)
            clear C10 hb11 hbw10 CRg
            go_wp2_with fail
            refine (unhide C11).mono ?_
            rintro e w12 ⟨rfl, hb12⟩
            have hbw12 := hbw11.trans (hb12.mono hbw11.size)
            clear C11 hb12 hbw11
            have CEg := hide (fun w1 hb => unhide CE eg w1 hb)
            by_cases hg0 : eg = 0
            · have C12 := hide (unhide CRA w12 hbw12 hg0)
              have CMg := CM
              rw [HV1.out hg0] at CMg
              have qq : (alikeB h g == alikeB h g) = true := by simp
              generalize alikeB h g = al at *
              subst hg0
              clear HV0 HV1 CM CRA
              go_wp2_with fail
              refine (unhide C12).mono ?_
              rintro e w13 ⟨rfl, hb13⟩
              have hbw13 := hbw12.trans (hb13.mono hbw12.size)
              have C13 := hide (unhide CMg w13 hbw13)
              clear C12 hb13 hbw12 CMg
              go_wp2_with fail
              refine (unhide C13).mono ?_
              rintro e w14 ⟨rfl, hb14⟩
              have hbw14 := hbw13.trans (hb14.mono hbw13.size)
              have C14 := hide (unhide CEg w14 hbw14)
              clear C13 hb14 hbw13 CEg
              go_wp2_with fail
              refine (unhide C14).mono ?_
              rintro e w15 ⟨rfl, hb15⟩
              have hbw15 := hbw14.trans (hb15.mono hbw14.size)
              go_wp2
              go_ret
              exact ⟨rfl, hbw15⟩
            · have C13 := hide (unhide CM w12 hbw12)
              rw [HV0.out hg0] at C13
              have q0 : (eg == 0) = false := by simpa using hg0
              clear hg0 HV0 HV1 CM CRA
              go_wp2_with fail
              refine (unhide C13).mono ?_
              rintro e w14 ⟨rfl, hb14⟩
              have hbw14 := hbw12.trans (hb14.mono hbw12.size)
              have C14 := hide (unhide CEg w14 hbw14)
              clear C13 hb14 hbw12 CEg
              go_wp2_with fail
              refine (unhide C14).mono ?_
              rintro e w15 ⟨rfl, hb15⟩
              have hbw15 := hbw14.trans (hb15.mono hbw14.size)
              go_wp2
              go_ret
              exact ⟨rfl, hbw15⟩
          · obtain ⟨f1, f2⟩ := HOKK.out (fun hc => hc.elim htx (fun e => by rw [HQ.out] at e; cases e))
            rw [f1, f2] at CS
            have t2 : (a1 == p1) = false := by simpa using htx
            clear f1 f2 HCL HOKK htx
            go_wp2
            go_quiet (fail)
            have hbq := below_drewN hbw9 nq
            generalize w9.drewN nq = wq at *
            have hdq := unhide HRd wq hbq
            go_wp2_with (at_builtin; (refine wpList_app rfl (.tmp 132) (.tmp 133) _ rfl wq.heap.size slt_op (n := 0) (xs := []) (m := n) (news := cellsH h) rfl (World.ownsRow_nil _ _ _ _) rfl hdq (oneH _) (by omega) (Nat.le_refl _) ?_; intro v11 w11 ho11 hg11 hb11 hat11 hne11; (rw [Nat.zero_add, List.nil_append] at ho11); obtain ⟨A11, c11, rfl⟩ := own_slice ho11; obtain ⟨g11, rfl, hgl, hgz⟩ := own_addr ho11 (by omega); have hbw11 := hbq.trans (hb11.mono hbq.size); obtain ⟨_, _, o1, he, hbl, ho1, x0, x1, x2⟩ := (unhide HRd w11 hbw11).op (k := k') (by omega); cases he; (rw [HA.out] at ho1); cases ho1; obtain ⟨_, _, o2, he, _, ho2, y0, y1, y2⟩ := (unhide HRd w11 hbw11).op (k := k' + 1) (by omega); cases he; (rw [HB.out] at ho2); cases ho2; have hwq := hbq.size; have hbg : b ≠ g11 := (by omega); obtain ⟨_, _, o1, he, _, ho1, u0, u1, u2⟩ := (rd_own ho11).op (k := k') (by omega); cases he; clear ho1; have f0 := ho11.frozenAt (k' * 3); have f1 := ho11.frozenAt (k' * 3 + 1); have f2 := ho11.frozenAt (k' * 3 + 2); have hoW := own_set3 ho11 k' ⟨p1, p2, p3⟩; obtain ⟨_, _, o1, he, _, ho1, r0, r1, r2⟩ := (rd_own hoW).op (k := k' + 1) (by omega); cases he; clear ho1; have s0 := hoW.frozenAt ((k' + 1) * 3); have s1 := hoW.frozenAt ((k' + 1) * 3 + 1); have s2 := hoW.frozenAt ((k' + 1) * 3 + 2); simp only [Nat.zero_add] at u0 u1 u2 r0 r1 r2; have x0' := (ocell3 (w := w11) (g := 0) (u0 := .int .i64 p1) (u1 := .int .i64 p2) (u2 := .int .i64 p3) (p0 := ⟨g11, k' * 3, none⟩) (p1 := ⟨g11, k' * 3 + 1, none⟩) (p2 := ⟨g11, k' * 3 + 2, none⟩) (q := ⟨b, off + k' * 3, none⟩) (fun e => hbg (by injection e)) (fun e => hbg (by injection e)) (fun e => hbg (by injection e))).trans x0; have x1' := (ocell3 (w := w11) (g := 0) (u0 := .int .i64 p1) (u1 := .int .i64 p2) (u2 := .int .i64 p3) (p0 := ⟨g11, k' * 3, none⟩) (p1 := ⟨g11, k' * 3 + 1, none⟩) (p2 := ⟨g11, k' * 3 + 2, none⟩) (q := ⟨b, off + k' * 3 + 1, none⟩) (fun e => hbg (by injection e)) (fun e => hbg (by injection e)) (fun e => hbg (by injection e))).trans x1; have x2' := (ocell3 (w := w11) (g := 0) (u0 := .int .i64 p1) (u1 := .int .i64 p2) (u2 := .int .i64 p3) (p0 := ⟨g11, k' * 3, none⟩) (p1 := ⟨g11, k' * 3 + 1, none⟩) (p2 := ⟨g11, k' * 3 + 2, none⟩) (q := ⟨b, off + k' * 3 + 2, none⟩) (fun e => hbg (by injection e)) (fun e => hbg (by injection e)) (fun e => hbg (by injection e))).trans x2; have HOW2 := Lib.hid (own_set3 hoW (k' + 1) ⟨a1, a2, a3⟩); clear hoW))
            have hgw : w.heap.size ≤ g11 := by omega
            have hbwc := (((((hbw11.setCell (p := ⟨g11, k' * 3, none⟩) hgw (.int .i64 p1)).setCell (p := ⟨g11, k' * 3 + 1, none⟩) hgw (.int .i64 p2)).setCell (p := ⟨g11, k' * 3 + 2, none⟩) hgw (.int .i64 p3)).setCell (p := ⟨g11, (k' + 1) * 3, none⟩) hgw (.int .i64 a1)).setCell (p := ⟨g11, (k' + 1) * 3 + 1, none⟩) hgw (.int .i64 a2)).setCell (p := ⟨g11, (k' + 1) * 3 + 2, none⟩) hgw (.int .i64 a3)
            have hd10 := rd_own HOW2.out
            have C8 := hide (unhide CS _ hbwc)
            have HL10 := Lib.hid hd10.hlen
            have hm10 : n ≤ 40 := by omega
            have CE' := hide (fun w1 hb => unhide CE (0) w1 hb)
            clear hbw8 CS
            refine (unhide C8).mono ?_
            rintro e w9 ⟨A20, m20, c20, rfl, hd20, hb9⟩
            have hbw9 := hbwc.trans (hb9.mono hbwc.size)
            have hd109 := (hd10.below hb9).more hb9.size
            have hm20 : m20 ≤ 40 := by rw [← hd20.hlen, HL10.out]; exact hm10
            have C9 := hide (unhide CE' w9 hbw9)
            clear C8 hb9 hd10 hbwc
            go_wp2_with fail
            refine (unhide C9).mono ?_
            rintro e w10 ⟨rfl, hb10⟩
            have hbw10 := hbw9.trans (hb10.mono hbw9.size)
            have C10 := hide (ops_any A20 (some ⟨g11, 0, none⟩) m20 n c20 c11 (((h.set k' ⟨p1, p2, p3⟩).set (k' + 1) ⟨a1, a2, a3⟩)) (((h.set k' ⟨p1, p2, p3⟩).set (k' + 1) ⟨a1, a2, a3⟩)) w10 ((hd20.below hb10).more hb10.size) ((hd109.below hb10).more hb10.size) (by omega))
            rw [decide_eq_true rfl] at C10
            clear C9 hb10 hd20 hd109 hbw9
            go_wp2_with fail
            refine (unhide C10).mono ?_
            rintro e w11 ⟨rfl, hb11⟩
            have hbw11 := hbw10.trans (hb11.mono hbw10.size)
            have C11 := hide (unhide CRg w11 hbw11)
            clear C10 hb11 hbw10 CRg
            go_wp2_with fail
            refine (unhide C11).mono ?_
            rintro e w12 ⟨rfl, hb12⟩
            have hbw12 := hbw11.trans (hb12.mono hbw11.size)
            clear C11 hb12 hbw11
            have CEg := hide (fun w1 hb => unhide CE eg w1 hb)
            by_cases hg0 : eg = 0
            · have C12 := hide (unhide CRA w12 hbw12 hg0)
              have CMg := CM
              rw [HV1.out hg0] at CMg
              have qq : (alikeB h g == alikeB h g) = true := by simp
              generalize alikeB h g = al at *
              subst hg0
              clear HV0 HV1 CM CRA
              go_wp2_with fail
              refine (unhide C12).mono ?_
              rintro e w13 ⟨rfl, hb13⟩
              have hbw13 := hbw12.trans (hb13.mono hbw12.size)
              have C13 := hide (unhide CMg w13 hbw13)
              clear C12 hb13 hbw12 CMg
              go_wp2_with fail
              refine (unhide C13).mono ?_
              rintro e w14 ⟨rfl, hb14⟩
              have hbw14 := hbw13.trans (hb14.mono hbw13.size)
              have C14 := hide (unhide CEg w14 hbw14)
              clear C13 hb14 hbw13 CEg
              go_wp2_with fail
              refine (unhide C14).mono ?_
              rintro e w15 ⟨rfl, hb15⟩
              have hbw15 := hbw14.trans (hb15.mono hbw14.size)
              go_wp2
              go_ret
              exact ⟨rfl, hbw15⟩
            · have C13 := hide (unhide CM w12 hbw12)
              rw [HV0.out hg0] at C13
              have q0 : (eg == 0) = false := by simpa using hg0
              clear hg0 HV0 HV1 CM CRA
              go_wp2_with fail
              refine (unhide C13).mono ?_
              rintro e w14 ⟨rfl, hb14⟩
              have hbw14 := hbw12.trans (hb14.mono hbw12.size)
              have C14 := hide (unhide CEg w14 hbw14)
              clear C13 hb14 hbw12 CEg
              go_wp2_with fail
              refine (unhide C14).mono ?_
              rintro e w15 ⟨rfl, hb15⟩
              have hbw15 := hbw14.trans (hb15.mono hbw14.size)
              go_wp2
              go_ret
              exact ⟨rfl, hbw15⟩
        · obtain ⟨f1, f2⟩ := HCL.out (.inr HQ.out)
          rw [f1, f2] at CS
          clear f1 f2 HCL HOKK
          go_wp2
          go_quiet (fail)
          have hbwc := below_drewN hbw9 nq
          have hd10 : Rd (w9.drewN nq) (w9.drewN nq).heap.size 3 none 0 (cellsH []) := Rd.nil
          have C8 := hide (unhide CS _ hbwc)
          have HL10 := Lib.hid hd10.hlen
          have hm10 : 0 ≤ 40 := by omega
          have CE' := hide (fun w1 hb => unhide CE (7) w1 hb)
          clear hbw8 CS
          go_wp2_with fail
          refine (unhide C8).mono ?_
          rintro e w9 ⟨A20, m20, c20, rfl, hd20, hb9⟩
          have hbw9 := hbwc.trans (hb9.mono hbwc.size)
          have hd109 := (hd10.below hb9).more hb9.size
          have hm20 : m20 ≤ 40 := by rw [← hd20.hlen, HL10.out]; exact hm10
          have C9 := hide (unhide CE' w9 hbw9)
          clear C8 hb9 hd10 hbwc
          go_wp2_with fail
          refine (unhide C9).mono ?_
          rintro e w10 ⟨rfl, hb10⟩
          have hbw10 := hbw9.trans (hb10.mono hbw9.size)
          have C10 := hide (ops_any A20 none m20 0 c20 0 ([]) ([]) w10 ((hd20.below hb10).more hb10.size) ((hd109.below hb10).more hb10.size) (by omega))
          rw [decide_eq_true rfl] at C10
          clear C9 hb10 hd20 hd109 hbw9
          go_wp2_with fail
          refine (unhide C10).mono ?_
          rintro e w11 ⟨rfl, hb11⟩
          have hbw11 := hbw10.trans (hb11.mono hbw10.size)
          have C11 := hide (unhide CRg w11 hbw11)
          clear C10 hb11 hbw10 CRg
          go_wp2_with fail
          refine (unhide C11).mono ?_
          rintro e w12 ⟨rfl, hb12⟩
          have hbw12 := hbw11.trans (hb12.mono hbw11.size)
          clear C11 hb12 hbw11
          have CEg := hide (fun w1 hb => unhide CE eg w1 hb)
          by_cases hg0 : eg = 0
          · have C12 := hide (unhide CRA w12 hbw12 hg0)
            have CMg := CM
            rw [HV1.out hg0] at CMg
            have qq : (alikeB h g == alikeB h g) = true := by simp
            generalize alikeB h g = al at *
            subst hg0
            clear HV0 HV1 CM CRA
            go_wp2_with fail
            refine (unhide C12).mono ?_
            rintro e w13 ⟨rfl, hb13⟩
            have hbw13 := hbw12.trans (hb13.mono hbw12.size)
            have C13 := hide (unhide CMg w13 hbw13)
            clear C12 hb13 hbw12 CMg
            go_wp2_with fail
            refine (unhide C13).mono ?_
            rintro e w14 ⟨rfl, hb14⟩
            have hbw14 := hbw13.trans (hb14.mono hbw13.size)
            have C14 := hide (unhide CEg w14 hbw14)
            clear C13 hb14 hbw13 CEg
            go_wp2_with fail
            refine (unhide C14).mono ?_
            rintro e w15 ⟨rfl, hb15⟩
            have hbw15 := hbw14.trans (hb15.mono hbw14.size)
            go_wp2
            go_ret
            exact ⟨rfl, hbw15⟩
          · have C13 := hide (unhide CM w12 hbw12)
            rw [HV0.out hg0] at C13
            have q0 : (eg == 0) = false := by simpa using hg0
            clear hg0 HV0 HV1 CM CRA
            go_wp2_with fail
            refine (unhide C13).mono ?_
            rintro e w14 ⟨rfl, hb14⟩
            have hbw14 := hbw12.trans (hb14.mono hbw12.size)
            have C14 := hide (unhide CEg w14 hbw14)
            clear C13 hb14 hbw12 CEg
            go_wp2_with fail
            refine (unhide C14).mono ?_
            rintro e w15 ⟨rfl, hb15⟩
            have hbw15 := hbw14.trans (hb15.mono hbw14.size)
            go_wp2
            go_ret
            exact ⟨rfl, hbw15⟩

theorem walk (A : Option Addr) (n c : Nat) (h : List HOp) (i : Int) (B : Option Addr) (m d : Nat) (g : List HOp) (w : World) (hE : Et w) (hr : Rd w w.heap.size 3 A n (cellsH h)) (hn : n * 24 ≤ 140737488351232) (hcap : n ≤ c) (hg : Rd w w.heap.size 3 B m (cellsH g)) (hm : m * 24 ≤ 140737488351232) :
    Calls Tryd.prog 3 #[.slice A n c, .int .i64 i, .slice B m d] w fun e w' => e = .returned (.bool true) ∧ Below w.heap.size w w' := by
  by_cases hok : okH h
  · exact walk_ok A B n c m d h g i w hE hr hg (by omega) hcap hok
  · exact walk_no A B n c m d h g i w hE hr hg (by omega) (by omega) hok
theorem bytes_ops : Tryd.prog.bytesOf 27 = 24 := by kernel_rfl
theorem bytes_opsc : Tryd.prog.bytesOf 27 = 24 := by kernel_rfl

/-! ### The row. -/
set_option maxRecDepth 100000 in
theorem lifted (os : Os) (started : os.Started) (H : Type) (enc : TypeId × Value → H) :
    ReturnsInHanded {} Tryd.checked os 3 .any (fun w args => (Rows.oddsTellSpec.pre enc Tryd.prog Tryd.f3 [] false w args ∧ laidMetH Tryd.prog dLaid w) ∧ sizedMet enc Tryd.prog Tryd.f3 (OpenSpec.ofChange Rows.oddsTellSpec) false w args) (Rows.oddsTellSpec.post enc Tryd.prog Tryd.f3 false true false false) := by
  refine returnsInHanded_of_change_and (C := Tryd.checked) (X := fun w _ => laidMetH Tryd.prog dLaid w) (fun _ _ _ hh h => h.of_heap hh) dOwn started (by kernel_rfl) Tryd.func3
    (ChangeSpec.witness_at (enc := enc) (C := Tryd.checked) (os := os) (X := fun w _ => laidMetH Tryd.prog dLaid w) false (laidWorld os) #[.slice none 0 0, .int .i64 0, .slice none 0 0] 8 rfl (by kernel_rfl) (by kernel_rfl) (by kernel_rfl) (by kernel_rfl) (by kernel_rfl) (laidWorld_met os _)) ?_
  intro W base args ds gs before hval0 hW hcnd hsz0 hL _
  have hval : ∀ (j : Nat) t v, Tryd.f3.params[j]? = some t → args[j]? = some v → Value.okWide Tryd.prog W .any base t v := hval0
  have hW' := hW
  obtain ⟨p, q, hA0, hV, rfl, hfz, hnd⟩ := hW
  have hA : DataW.TrodAll enc Tryd.prog W 0 (fun _ => true) true Tryd.f3.params.toList args.toList ds p := hA0
  have hsz : (DataW.weightsEach Tryd.prog (Tryd.f3.params.toList ++ Rows.oddsTellSpec.plain.varTypes Tryd.prog) (ds ++ gs)).all (· ≤ reachBytes) = true := hsz0
  rw [Tryd.params3] at hA hval hsz
  obtain ⟨v0, vs0, d0, ds0, p0, q0, hargs, rfl, rfl, h0, r0⟩ := trodAll_cons hA
  obtain ⟨v1, vs1, d1, ds1, p1, q1, rfl, rfl, rfl, h1, r1⟩ := trodAll_cons r0
  obtain ⟨v2, vs2, d2, ds2, p2, q2, rfl, rfl, rfl, h2, r2⟩ := trodAll_cons r1
  obtain ⟨rfl, rfl, rfl⟩ := trodAll_nil r2
  obtain rfl : args = #[v0, v1, v2] := by cases args; simp_all
  obtain ⟨rfl, rfl⟩ := trodVars_none hV
  simp only [List.append_nil] at hW'
  have hk0 := h0
  have hlt0 : ∀ x ∈ p0, x.block < W.heap.size := fun x hx => hW'.lt x (by simp [hx])
  obtain ⟨A0, n0, c0, l0, rfl, rd0, bd0, cp0⟩ := open_opsc Tryd.underlying22 Tryd.underlying27 Tryd.underlying3 rfl rfl rfl (by kernel_rfl) (by kernel_rfl) (hval 0 22 v0 rfl rfl) h0 (fun e s he => by have := sized_slice hsz (j := 0) (t := 22) (e := 27) rfl (congrArg some he) Tryd.underlying22; rwa [bytes_opsc] at this)
  obtain ⟨a1, rfl, rfl, rfl, w1⟩ := open_int Tryd.underlying3 (hval 1 3 v1 rfl rfl) h1
  have hk2 := h2
  have hlt2 : ∀ x ∈ p2, x.block < W.heap.size := fun x hx => hW'.lt x (by simp [hx])
  obtain ⟨A2, n2, c2, l2, rfl, rd2, bd2⟩ := open_ops Tryd.underlying22 Tryd.underlying27 Tryd.underlying3 rfl rfl rfl (by kernel_rfl) (by kernel_rfl) (hval 2 22 v2 rfl rfl) h2 (fun e s he => by have := sized_slice hsz (j := 2) (t := 22) (e := 27) rfl (congrArg some he) Tryd.underlying22; rwa [bytes_ops] at this)
  clear hA0 hval0
  refine (walk A0 n0 c0 l0 a1 A2 n2 c2 l2 W (et_of_laid hL) rd0 bd0 cp0 rd2 bd2).mono fun e W' ⟨he, hg⟩ => ?_
  subst he
  exact ⟨_, rfl, post_slices (pa := _) (pv := []) hW' hg (by simp) (fun _ _ _ => (trodAll_cons_mk (shut_bool Tryd.underlying4 _) trodAll_mk0)) (trodAll_cons_mk (Below.trod laidOut (by kernel_rfl) (of_decide_eq_true (by kernel_rfl)) hk0 hg hlt0) (trodAll_cons_mk (shut_int Tryd.underlying3 w1) (trodAll_cons_mk (Below.trod laidOut (by kernel_rfl) (of_decide_eq_true (by kernel_rfl)) hk2 hg hlt2) trodAll_mk0))) rfl⟩

theorem over : Rows.OddsTellSaid :=
  OpenClaim.holds_of_wide 3 Tryd.f3 rfl rfl rfl rfl rfl rfl rfl ⟨rfl, rfl, rfl, rfl, rfl⟩ rfl rfl rfl rfl rfl (by kernel_rfl) Tryd.func3 (by kernel_rfl)
    (of_decide_eq_true (by kernel_rfl)) (by unfold Func.isWrapper; first | (rw [if_pos (by decide +kernel)]; kernel_rfl) | (rw [if_neg (by decide +kernel)]; exact ⟨rfl, rfl⟩))
    (fun os started H enc _ => lifted os started H enc)

/-- The statement: the tied card. -/
theorem proved : Rows.OddsTellCardSaid :=
  Claim7.holds_tied_plain_at .later [] [.handle] true _ true
    over (fun _ h => by cases h) (by kernel_rfl) (fun _ h => by cases h) oddsTell_row_tie rfl ⟨rfl, rfl⟩ (by kernel_rfl) rfl
    (fun f fn hf hfn => by
      obtain rfl : f = 3 := Option.some.inj ((show Tryd.prog.funcNamed "locklane/lanelaw1.OddsTell" = some 3 by kernel_rfl).symm.trans hf) |>.symm
      obtain rfl : fn = Tryd.f3 := (Option.some.inj (Tryd.func3.symm.trans hfn)).symm
      exact ⟨by kernel_rfl, fun j t ht => by
        rw [Tryd.params3] at ht
        have hm : t ∈ [22, 3, 22] := by have := Array.mem_of_getElem? ht; simpa using this
        have hall : ([22, 3, 22].all fun u => !Tryd.prog.wantsStandIn u) = true := by kernel_rfl
        exact (show Tryd.prog.wantsStandIn t = false by simpa using List.all_eq_true.1 hall t hm)⟩)
    (by kernel_rfl)
#print axioms proved
end Go.Proofs.YtecfgepomcnenaaDoor.oddsTell
