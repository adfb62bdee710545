
/-
  CONTRACTS of slices.Clone at []api.Op and []int.
  CONTRACTS of slices.IndexFunc, ContainsFunc, DeleteFunc over slices of three-number structs, for whatever test a function value makes.
  CONTRACTS of history.Check, Right.
  CONTRACTS of history.DoneOf, Done: the ops of the deals that commit.
  PLAIN LAWS: histories as text (printL), any text as one (parseE, parseL); a text cut at each byte.
  PLAIN: lines of a text; what a session's line is answered (in parts).
-/
import Derived.Test.YtaaahfbcpgdoiaaGreatDoorQ0
import Derived.Lib.SliceRun
import Derived.Deep.RegionHeld3
import Derived.Deep.LoopGhost
import Derived.RegionTactic
import Derived.BigRegion
import Derived.Lib.Split

namespace Go.Proofs.YtaaahfbcpgdoiaaGreatDoor
open Go.RowKit
theorem slt_op : SlT Tryz.prog 29 91 3 24 := slt_of (z := .agg #[.int .i64 0, .int .i64 0, .int .i64 0]) Tryz.underlying29 (by kernel_rfl) (by kernel_rfl) (by decide) (by decide)

set_option maxHeartbeats 400000 in
theorem clone_op (A : Option Addr) (n cap : Nat) (xs : List Value) (w : World) (hr : Rd w w.heap.size 3 A n xs) (h1 : ∀ u ∈ xs, u.oneCell' = true) (hm : n * 24 ≤ 140737488355328) :
    Calls Tryz.prog 92 #[.slice A n cap] w fun e w' => ∃ v, e = .returned v ∧ w'.ownsRow w.heap.size 91 3 v n xs ∧ Below w.heap.size w w' := by
  have hnil := fun (w : World) => Lib.run_eql_slice_nil (P := Tryz.prog) w 29 91 A n cap 0 0 Tryz.underlying29
  rcases A with _ | ad
  · have h0 : n = 0 := by
      rcases Nat.eq_zero_or_pos n with h | h
      · exact h
      · obtain ⟨_, _, h, _⟩ := hr.2 h
        cases h
    subst h0
    have hx : xs = [] := List.eq_nil_of_length_eq_zero (by simpa using hr.1)
    subst hx
    clear h1 hr
    go_enter Tryz.func92, Tryz.ntmps92
    go_wp2
    go_ret
    exact ⟨_, rfl, World.ownsRow_nil _ _ _ _, Below.refl _ _⟩
  · have H1 := Lib.hid h1
    clear h1
    go_enter Tryz.func92, Tryz.ntmps92
    go_wp2_with (at_builtin; refine wpList_app rfl _ _ _ rfl w.heap.size slt_op rfl (World.ownsRow_made w #[] 0 (Nat.le_refl _) (by decide) rfl) rfl (hr.alloc (Nat.le_refl _) _) H1.out (by omega) (by simp) ?_; intro v1 w1 hown1 hg1 hb1 hat1 hne1)
    go_ret
    exact ⟨_, rfl, by simpa using hown1, ((Below.refl _ _).alloc (Nat.le_refl _) _).trans hb1⟩
theorem slt_int : SlT Tryz.prog 24 3 1 8 := slt_of (z := .int .i64 0) Tryz.underlying24 (by kernel_rfl) (by kernel_rfl) (by decide) (by decide)

set_option maxHeartbeats 400000 in
theorem clone_int (A : Option Addr) (n cap : Nat) (xs : List Value) (w : World) (hr : Rd w w.heap.size 1 A n xs) (h1 : ∀ u ∈ xs, u.oneCell' = true) (hm : n * 8 ≤ 140737488355328) :
    Calls Tryz.prog 95 #[.slice A n cap] w fun e w' => ∃ v, e = .returned v ∧ w'.ownsRow w.heap.size 3 1 v n xs ∧ Below w.heap.size w w' := by
  have hnil := fun (w : World) => Lib.run_eql_slice_nil (P := Tryz.prog) w 24 3 A n cap 0 0 Tryz.underlying24
  rcases A with _ | ad
  · have h0 : n = 0 := by
      rcases Nat.eq_zero_or_pos n with h | h
      · exact h
      · obtain ⟨_, _, h, _⟩ := hr.2 h
        cases h
    subst h0
    have hx : xs = [] := List.eq_nil_of_length_eq_zero (by simpa using hr.1)
    subst hx
    clear h1 hr
    go_enter Tryz.func95, Tryz.ntmps95
    go_wp2
    go_ret
    exact ⟨_, rfl, World.ownsRow_nil _ _ _ _, Below.refl _ _⟩
  · have H1 := Lib.hid h1
    clear h1
    go_enter Tryz.func95, Tryz.ntmps95
    go_wp2_with (at_builtin; refine wpList_app rfl _ _ _ rfl w.heap.size slt_int rfl (World.ownsRow_made w #[] 0 (Nat.le_refl _) (by decide) rfl) rfl (hr.alloc (Nat.le_refl _) _) H1.out (by omega) (by simp) ?_; intro v1 w1 hown1 hg1 hb1 hat1 hne1)
    go_ret
    exact ⟨_, rfl, by simpa using hown1, ((Below.refl _ _).alloc (Nat.le_refl _) _).trans hb1⟩
end Go.Proofs.YtaaahfbcpgdoiaaGreatDoor


namespace Go.Proofs.YtaaahfbcpgdoiaaGreatDoor
open Go.RowKit
def idxGo {α : Type} (p : α → Bool) (k : Int) : List α → Int
  | [] => -1
  | o :: t => if p o then k else idxGo p (k + 1) t
theorem idxGo_spec {α : Type} (p : α → Bool) (k : Int) (l : List α) :
    ((∀ o ∈ l, p o = false) ∧ idxGo p k l = -1) ∨ ∃ (i : Nat) (o : α), l[i]? = some o ∧ p o = true ∧ (∀ x ∈ l.take i, p x = false) ∧ idxGo p k l = k + i := by
  induction l generalizing k with
  | nil => exact .inl ⟨by simp, rfl⟩
  | cons a t ih =>
    cases hp : p a
    · rcases ih (k + 1) with ⟨h1, h2⟩ | ⟨i, o, h1, h2, h3, h4⟩
      · exact .inl ⟨by simpa [hp] using h1, by simp [idxGo, hp, h2]⟩
      · exact .inr ⟨i + 1, o, by simpa using h1, h2, by simpa [hp] using h3, by simp [idxGo, hp, h4]; omega⟩
    · exact .inr ⟨0, a, by simp, hp, by simp, by simp [idxGo, hp]⟩
set_option maxHeartbeats 400000 in
theorem indexFunc_op (A : Option Addr) (n cap : Nat) (h : List HOp) (F : FuncId) (caps : Array Value) (p : HOp → Bool) (w : World) (hr : Rd w w.heap.size 3 A n (cellsH h)) (hm : n ≤ 6000000000000)
    (hcall : ∀ (args : Array Value) (w : World), (callFunc F args).run Tryz.prog w = .ok (.enter F args) w)
    (hf : ∀ o ∈ h, ∀ w', Below w.heap.size w w' → Calls Tryz.prog F (#[o.val] ++ caps) w' fun e w'' => e = .returned (.bool (p o)) ∧ Below w'.heap.size w' w'') :
    Calls Tryz.prog 143 #[.slice A n cap, .func (.func F) #[] caps] w fun e w' => e = .returned (.int .i64 (idxGo p 0 h)) ∧ Below w.heap.size w w' := by
  have hl := hr.hlen
  have HL := Lib.hid hl
  have HF := Lib.hid hf
  clear hl hf
  go_enter Tryz.func143, Tryz.ntmps143
  go_wp2
  go_loopw [8] (fun i wr => ∃ k : Nat, k ≤ n ∧ i = .int .i64 k ∧ Hid (idxGo p 0 h = idxGo p k (h.drop k)) ∧ Below w.heap.size w wr) (fun i _ => n - (intOf i).toNat)
  case atStart => exact ⟨0, Nat.zero_le _, rfl, rfl, Below.refl _ _⟩
  case round =>
    obtain ⟨k, hk, rfl, HE, hbw⟩ := hrel
    by_cases hlt : k < n
    · obtain ⟨b, off, o, he, hb, ho, c0, c1, c2⟩ := (hr.below hbw).op (k := k) (by omega)
      cases he
      have HO := Lib.hid (drop_at ho)
      have hmem := Lib.hid (List.mem_of_getElem? ho)
      clear ho
      cases hP : p o
      · have HE2 : Hid (idxGo p 0 h = idxGo p (k + 1) (h.drop (k + 1))) := Lib.hid (by rw [HE.out, HO.out]; simp [idxGo, hP])
        go_wp2_with fail
        refine (HF.out o hmem.out wr hbw).mono ?_
        rintro e w1 ⟨rfl, hb1⟩
        rw [hP]
        go_wp2
        go_roundw
        case rel => exact ⟨k + 1, by omega, by go_num, HE2, hbw.trans (hb1.mono hbw.size)⟩
        case measure => simp [intOf]; omega
      · have HE2 : Hid (idxGo p 0 h = k) := Lib.hid (by rw [HE.out, HO.out]; simp [idxGo, hP])
        go_wp2_with fail
        refine (HF.out o hmem.out wr hbw).mono ?_
        rintro e w1 ⟨rfl, hb1⟩
        rw [hP]
        go_wp2
        go_ret
        exact ⟨ret_int HE2.out.symm, hbw.trans (hb1.mono hbw.size)⟩
    · have HE2 : Hid (idxGo p 0 h = -1) := Lib.hid (by rw [HE.out, drop_end (by rw [HL.out]; omega)]; rfl)
      go_wp2
      go_ret
      exact ⟨ret_int HE2.out.symm, hbw⟩
set_option maxRecDepth 100000 in
set_option maxHeartbeats 1000000 in
theorem deleteFunc_op (A : Option Addr) (n cap base : Nat) (h : List HOp) (F : FuncId) (caps : Array Value) (p : HOp → Bool) (w : World) (hown : w.ownsRow base 91 3 (.slice A n cap) n (cellsH h)) (hbase : base ≤ w.heap.size) (hm : n ≤ 6000000000000)
    (hcall : ∀ (args : Array Value) (w : World), (callFunc F args).run Tryz.prog w = .ok (.enter F args) w)
    (hf : ∀ o ∈ h, ∀ w', Below base w w' → Calls Tryz.prog F (#[o.val] ++ caps) w' fun e w'' => e = .returned (.bool (p o)) ∧ Below w'.heap.size w' w'') :
    Calls Tryz.prog 91 #[.slice A n cap, .func (.func F) #[] caps] w fun e w' => ∃ m, e = .returned (.slice A m cap) ∧ w'.ownsRow base 91 3 (.slice A m cap) m (cellsH (h.filter fun o => !p o)) ∧ Below base w w' := by
  have hl := (rd_own hown).hlen
  have HL := Lib.hid hl
  have C := indexFunc_op A n cap h F caps p w (rd_own hown) hm hcall (fun o ho w' hw => hf o ho w' (hw.mono hbase))
  have HF := Lib.hid hf
  rcases idxGo_spec p 0 h with ⟨hno, hi⟩ | ⟨i0, o0, ho0, hp0, hno, hi⟩
  · rw [hi] at C
    have HC := hide C
    have HQ : Hid (h.filter (fun o => !p o) = h) := Lib.hid (List.filter_eq_self.2 fun o ho => by rw [hno o ho]; rfl)
    clear hl hf C hi hno
    go_enter Tryz.func91, Tryz.ntmps91
    go_wp2_with fail
    refine (unhide HC).mono ?_
    rintro e w1 ⟨rfl, hb1⟩
    go_wp2
    go_ret
    exact ⟨n, rfl, by rw [HQ.out]; exact own_below hown hb1 (Nat.le_refl _), hb1.mono hbase⟩
  · have hi0 : i0 < n := by rw [← hl]; exact (List.getElem?_eq_some_iff.1 ho0).1
    obtain ⟨g, rfl⟩ : ∃ g, A = some ⟨g, 0, none⟩ := by
      rcases hown.2 with ⟨_, h0⟩ | ⟨g, _, _, hv, _⟩
      · omega
      · injection hv with hA; exact ⟨g, hA⟩
    have hgb : base ≤ g ∧ g < w.heap.size := hown.lt g rfl
    have hncap : n ≤ cap := by
      rcases hown.2 with ⟨_, h0⟩ | ⟨_, _, _, hv, _, _, hnc, _⟩
      · omega
      · injection hv with _ _ hc; omega
    have HI : Hid ((h.take (i0 + 1)).filter (fun o => !p o) = h.take i0) := Lib.hid (by
      rw [List.take_succ_eq_append_getElem (List.getElem?_eq_some_iff.1 ho0).1, List.filter_append, (List.getElem?_eq_some_iff.1 ho0).2]
      rw [List.filter_eq_self.2 fun o ho => by rw [hno o ho]; rfl]
      simp [hp0])
    rw [Int.zero_add] at hi
    rw [hi] at C
    have HC := hide C
    clear hl hf C hi hno ho0 hp0
    have hne : ((i0 : Int) == -1) = false := by rw [beq_eq_false_iff_ne]; omega
    go_enter Tryz.func91, Tryz.ntmps91
    go_wp2_with fail
    refine (unhide HC).mono ?_
    rintro e w1 ⟨rfl, hb1⟩
    go_wp2
    clear hne
    have hown1 := own_below hown hb1 (Nat.le_refl _)
    have hbw1 : Below base w w1 := hb1.mono hbase
    clear hb1 hown
    go_loopw [5, 6] (fun s5 s6 wr => ∃ (i j : Nat) (L : List HOp), i < j ∧ j ≤ n ∧ s5 = .int .i64 i ∧ s6 = .int .i64 j ∧ wr.ownsRow base 91 3 (.slice (some ⟨g, 0, none⟩) n cap) n (cellsH L) ∧ Hid (L.length = n ∧ L.take i = (h.take j).filter (fun o => !p o) ∧ L.drop j = h.drop j) ∧ Below base w wr)
      (fun _ s6 _ => n - (intOf s6).toNat)
    case atStart => exact ⟨i0, i0 + 1, h, by omega, by omega, rfl, by go_num, hown1, ⟨HL.out, HI.out.symm, rfl⟩, hbw1⟩
    case round =>
      obtain ⟨i, j, L, hij, hj, rfl, rfl, hownr, HK, hbw⟩ := hrel
      have hgr : g < wr.heap.size := (hownr.lt g rfl).2
      by_cases hlt : j < n
      · obtain ⟨b, off, o, he, hb, ho, c0, c1, c2⟩ := (rd_own hownr).op (k := j) (by omega)
        cases he
        simp only [Nat.zero_add] at c0 c1 c2
        have HO : Hid (h[j]? = some o ∧ o ∈ h) := by
          have : h[j]? = some o := by
            have h1 := congrArg (fun l => l[0]?) HK.out.2.2
            simpa [ho] using h1.symm
          exact ⟨this, List.mem_of_getElem? this⟩
        clear ho
        have D0 : ∃ v, wr.cell? ⟨g, i * 3, none⟩ = some v := ⟨_, (hownr.cellAt (i * 3) (by omega)).trans (List.getElem?_eq_getElem (by rw [hownr.1]; omega))⟩
        have D1 : ∃ v, wr.cell? ⟨g, i * 3 + 1, none⟩ = some v := ⟨_, (hownr.cellAt (i * 3 + 1) (by omega)).trans (List.getElem?_eq_getElem (by rw [hownr.1]; omega))⟩
        have D2 : ∃ v, wr.cell? ⟨g, i * 3 + 2, none⟩ = some v := ⟨_, (hownr.cellAt (i * 3 + 2) (by omega)).trans (List.getElem?_eq_getElem (by rw [hownr.1]; omega))⟩
        obtain ⟨x0, d0⟩ := D0
        obtain ⟨x1, d1⟩ := D1
        obtain ⟨x2, d2⟩ := D2
        have f0 := hownr.frozenAt (i * 3)
        have f1 := hownr.frozenAt (i * 3 + 1)
        have f2 := hownr.frozenAt (i * 3 + 2)
        cases hP : p o
        · go_wp2_with fail
          refine (HF.out o HO.out.2 _ (hbw.alloc (by omega) _)).mono ?_
          rintro e w2 ⟨rfl, hb2⟩
          rw [hP]
          obtain ⟨hc2, hf2⟩ := bcell hb2
          have HK2 : Hid ((L.set i o).length = n ∧ (L.set i o).take (i + 1) = (h.take (j + 1)).filter (fun o => !p o) ∧ (L.set i o).drop (j + 1) = h.drop (j + 1)) := by
            refine ⟨by simp [HK.out.1], ?_, ?_⟩
            · rw [List.take_add_one, List.take_add_one, HO.out.1, List.take_set_of_le (Nat.le_refl _), HK.out.2.1, List.getElem?_set_self (by rw [HK.out.1]; omega)]; simp [hP]
            · rw [List.drop_set_of_lt (by omega)]
              have := congrArg (List.drop 1) HK.out.2.2; simpa [List.drop_drop, Nat.add_comm] using this
          have HOW := Lib.hid (own_set3 (own_below (hownr.alloc (.cells #[.int .i64 o.tx, .int .i64 o.what, .int .i64 o.item] 91)) hb2 (Nat.le_refl _)) i o)
          have HBW : Below base w w2 := (hbw.alloc (by omega) _).trans (hb2.mono (by simp; omega))
          go_wp2
          go_roundw
          case rel => exact ⟨i + 1, j + 1, L.set i o, by omega, by omega, by go_num, by go_num, HOW.out, HK2, ((HBW.setCell hgb.1 _).setCell hgb.1 _).setCell hgb.1 _⟩
          case measure => simp [intOf]; omega
        · go_wp2_with fail
          refine (HF.out o HO.out.2 _ (hbw.alloc (by omega) _)).mono ?_
          rintro e w2 ⟨rfl, hb2⟩
          rw [hP]
          have HK2 : Hid (L.length = n ∧ L.take i = (h.take (j + 1)).filter (fun o => !p o) ∧ L.drop (j + 1) = h.drop (j + 1)) := by
            refine ⟨HK.out.1, ?_, ?_⟩
            · rw [List.take_add_one, HO.out.1]; simp [hP, HK.out.2.1]
            · have := congrArg (List.drop 1) HK.out.2.2; simpa [List.drop_drop, Nat.add_comm] using this
          go_wp2
          go_roundw
          case rel => exact ⟨i, j + 1, L, by omega, by omega, rfl, by go_num, own_below (hownr.alloc _) hb2 (Nat.le_refl _), HK2, (hbw.alloc (by omega) _).trans (hb2.mono (by simp; omega))⟩
          case measure => simp [intOf]; omega
      · have HK2 : Hid (cellsH (h.filter fun o => !p o) = (cellsH L).take (i * 3)) := by
          have h1 : L.take i = h.filter fun o => !p o := by
            have := HK.out.2.1
            rwa [List.take_of_length_le (l := h) (by rw [HL.out]; omega)] at this
          rw [← h1]
          exact Lib.hid (cellsH_take L i).symm
        
        go_wp2_with ((with_reducible show wpList _ _ _ _ _ _); refine wpList_clear (base := base) rfl (.tmp 38) _ rfl slt_op hownr (i := i) (by omega) rfl (fun _ => rfl) ?_; intro w3 hown3 hg3)
        go_ret
        exact ⟨i, rfl, by rw [HK2.out]; exact hown3, hbw.grown hg3 (by have := hbw.size; omega) (fun k hk => by cases hk; exact hgb.1)⟩
end Go.Proofs.YtaaahfbcpgdoiaaGreatDoor


namespace Go.Proofs.YtaaahfbcpgdoiaaGreatDoor
open Go.RowKit

def errV (e : Int) : Value := if e = 0 then .nilIface else .iface 51 (.int .i64 e)
def checkGo (es : List Bool) (i : Nat) : List HOp → Nat × Int
  | [] => (0, 0)
  | o :: t => if rightB o = false then (i, 1) else if es.getD o.tx.toNat false = true then (i, 6) else checkGo (es.set o.tx.toNat (endsB o)) (i + 1) t
def checkF (h : List HOp) : Nat × Int := if 40 < h.length then (0, 4) else checkGo (List.replicate 7 false) 0 h

set_option maxHeartbeats 1000000 in
theorem check_any (A : Option Addr) (n cap : Nat) (h : List HOp) (w : World) (hr : Rd w w.heap.size 3 A n (cellsH h)) (hm : n ≤ 6000000000000) :
    Calls Tryz.prog 86 #[.slice A n cap] w fun e w' => e = .returned (.tuple #[.int .i64 (checkF h).1, errV (checkF h).2]) ∧ Below w.heap.size w w' := by
  have hl := hr.hlen
  have HL := Lib.hid hl
  by_cases hn : 40 < n
  · have hr : checkF h = (0, 4) := by rw [checkF, hl, if_pos hn]
    rw [hr]
    clear hl
    go_enter Tryz.func86, Tryz.ntmps86
    go_wp2
    go_ret2
    exact ⟨rfl, Below.refl _ _⟩
  · have hs : checkF h = checkGo (List.replicate 7 false) 0 h := by rw [checkF, hl, if_neg hn]
    rw [hs]
    clear hl hs
    go_enter Tryz.func86, Tryz.ntmps86
    go_wp2
    go_loopw [13] (fun i wr => ∃ (k : Nat) (es : List Bool), k ≤ n ∧ i = .int .i64 k ∧ es.length = 7 ∧ Blk wr w.heap.size 25 (es.map .bool) ∧ Hid (checkGo (List.replicate 7 false) 0 h = checkGo es k (h.drop k)) ∧ Below w.heap.size w wr)
      (fun i _ => n - (intOf i).toNat)
    case atStart => exact ⟨0, List.replicate 7 false, Nat.zero_le _, rfl, rfl, Blk.new w _ _, rfl, (Below.refl _ _).alloc (Nat.le_refl _) _⟩
    case round =>
      obtain ⟨k, es, hk, rfl, hes, hB, HE, hbw⟩ := hrel
      have hBlt := hB.lt
      by_cases hlt : k < n
      · obtain ⟨b, off, o, he, hb, ho, c0, c1, c2⟩ := (hr.below hbw).op (k := k) (by omega)
        cases he
        obtain ⟨tx, what, item⟩ := o
        have HO : Hid (h.drop k = ⟨tx, what, item⟩ :: h.drop (k + 1)) := drop_at ho
        clear ho
        have hb' : b < wr.heap.size := by omega
        cases hR : rightB ⟨tx, what, item⟩
        · have HF : Hid (checkGo (List.replicate 7 false) 0 h = (k, 1)) := Lib.hid (by rw [HE.out, HO.out]; simp [checkGo, hR])
          go_wp2_with (go_at_call 84; refine (right_any ⟨tx, what, item⟩ _).mono ?_; rintro e w1 ⟨rfl, hb1⟩; rw [hR]; obtain ⟨hc, hf⟩ := bcell hb1)
          go_ret2
          exact ⟨by rw [HF.out]; rfl, (hbw.alloc (Nat.le_of_lt hBlt) _).trans (hb1.mono (by simp; omega))⟩
        · have ht : 1 ≤ tx ∧ tx ≤ 6 := by simp [rightB, txB] at hR; omega
          obtain ⟨eb, heb⟩ : ∃ eb, es[tx.toNat]? = some eb := ⟨_, List.getElem?_eq_getElem (by omega)⟩
          have hct : wr.cell? ⟨w.heap.size, tx.toNat, none⟩ = some (.bool eb) := hB.cellS (by rw [List.getElem?_map, heb]; rfl)
          have hft : wr.frozen? ⟨w.heap.size, tx.toNat, none⟩ = false := hB.frozen _
          obtain ⟨ht1, ht2⟩ := ht
          cases eb
          · have HF : Hid (checkGo (List.replicate 7 false) 0 h = checkGo (es.set tx.toNat (endsB ⟨tx, what, item⟩)) (k + 1) (h.drop (k + 1))) := Lib.hid (by rw [HE.out, HO.out]; simp [checkGo, hR, heb])
            have HEB := Lib.hid heb; clear heb
            go_wp2_with (first
              | (go_at_call 84; refine (right_any ⟨tx, what, item⟩ _).mono ?_; rintro e w1 ⟨rfl, hb1⟩; rw [hR]; obtain ⟨hc, hf⟩ := bcell hb1))
            have hz : wr.heap.size < w1.heap.size := by have := hb1.size; simp at this; omega
            have hz' : w.heap.size < w1.heap.size := by omega
            have hb2 : Below w.heap.size w w1 := (hbw.alloc (Nat.le_of_lt hBlt) _).trans (hb1.mono (by simp; omega))
            have hB1 : Blk w1 w.heap.size 25 (es.map .bool) := (hB.alloc _).below hb1 (by simp; omega)
            have d0 : w1.cell? ⟨wr.heap.size, 0, none⟩ = some (.int .i64 tx) := by rw [hc _ _ (by simp)]; simp [World.cell?_alloc_new]
            have d1 : w1.cell? ⟨wr.heap.size, 1, none⟩ = some (.int .i64 what) := by rw [hc _ _ (by simp)]; simp [World.cell?_alloc_new]
            have d2 : w1.cell? ⟨wr.heap.size, 2, none⟩ = some (.int .i64 item) := by rw [hc _ _ (by simp)]; simp [World.cell?_alloc_new]
            have d3 : w1.cell? ⟨w.heap.size, tx.toNat, none⟩ = some (.bool false) := hB1.cellS (by rw [List.getElem?_map, HEB.out]; rfl)
            have d4 : w1.frozen? ⟨w.heap.size, tx.toNat, none⟩ = false := hB1.frozen _
            clear hc hf hb1
            go_region_with (first | (go_at_call 62; refine (ends_any ⟨tx, what, item⟩ _).mono ?_; rintro e w2 ⟨rfl, hb3⟩; have e0 := (hb3.cell (p := ⟨wr.heap.size, 0, none⟩) (by simp; omega)).trans d0; have e1 := (hb3.cell (p := ⟨wr.heap.size, 1, none⟩) (by simp; omega)).trans d1; have e2 := (hb3.cell (p := ⟨wr.heap.size, 2, none⟩) (by simp; omega)).trans d2; have e3 := (hb3.cell (p := ⟨w.heap.size, tx.toNat, none⟩) (by simp; omega)).trans d3; have e4 := (hb3.frozen (p := ⟨w.heap.size, tx.toNat, none⟩) (by simp; omega)).trans d4))
            all_goals
              go_wp2
              go_roundw
              case rel => exact ⟨k + 1, es.set tx.toNat (endsB ⟨tx, what, item⟩), by omega, by go_num, by simp [hes], by rw [List.map_set]; exact (hB1.drew.below hb3 hz').put _ _, HF, (hb2.drew.trans (hb3.mono (Nat.le_of_lt hz'))).setCell (Nat.le_refl _) _⟩
              case measure => simp [intOf]; omega
          · have HF : Hid (checkGo (List.replicate 7 false) 0 h = (k, 6)) := Lib.hid (by rw [HE.out, HO.out]; simp [checkGo, hR, heb])
            clear heb
            go_wp2_with (first
              | (go_at_call 84; refine (right_any ⟨tx, what, item⟩ _).mono ?_; rintro e w1 ⟨rfl, hb1⟩; rw [hR]; obtain ⟨hc, hf⟩ := bcell hb1))
            go_ret2
            exact ⟨by rw [HF.out]; rfl, (hbw.alloc (Nat.le_of_lt hBlt) _).trans (hb1.mono (by simp; omega))⟩
      · have HF : Hid (checkGo (List.replicate 7 false) 0 h = (0, 0)) := Lib.hid (by rw [HE.out, drop_end (by rw [HL.out]; omega)]; rfl)
        go_wp2
        go_ret2
        exact ⟨by rw [HF.out]; rfl, hbw⟩

theorem right_h (A : Option Addr) (n cap : Nat) (h : List HOp) (w : World) (hr : Rd w w.heap.size 3 A n (cellsH h)) (hm : n ≤ 6000000000000) :
    Calls Tryz.prog 46 #[.slice A n cap] w fun e w' => e = .returned (errV (checkF h).2) ∧ Below w.heap.size w w' := by
  have C := check_any A n cap h w hr hm
  generalize errV (checkF h).2 = ev at *
  generalize (checkF h).1 = iv at *
  go_enter Tryz.func46, Tryz.ntmps46
  go_wp2_with (go_at_call 86; refine (C).mono ?_; rintro e w1 ⟨rfl, hb1⟩)
  go_ret
  exact ⟨rfl, hb1⟩
end Go.Proofs.YtaaahfbcpgdoiaaGreatDoor


namespace Go.Proofs.YtaaahfbcpgdoiaaGreatDoor
open Go.RowKit

def flagsGo (es : List Bool) : List HOp → List Bool
  | [] => es
  | o :: t => flagsGo (es.set o.tx.toNat (es.getD o.tx.toNat false || decide (o.what = 3))) t
def flagsF (h : List HOp) : List Bool := flagsGo (List.replicate 7 false) h
def doneL (h : List HOp) : List HOp := h.filter fun o => (flagsF h).getD o.tx.toNat false

theorem flagsGo_length (es : List Bool) (h : List HOp) : (flagsGo es h).length = es.length := by
  induction h generalizing es with
  | nil => rfl
  | cons o t ih => simp [flagsGo, ih]
theorem flagsF_length (h : List HOp) : (flagsF h).length = 7 := by simp [flagsF, flagsGo_length]

set_option maxHeartbeats 400000 in
theorem doneOf1_any (o : HOp) (es : List Bool) (g : Nat) (ho : 1 ≤ o.tx ∧ o.tx ≤ 6) (w : World) (hB : Blk w g 25 (es.map .bool)) (hes : es.length = 7) :
    Calls Tryz.prog 93 #[o.val, .pointer (some ⟨g, 0, none⟩)] w fun e w' => e = .returned (.bool (!es.getD o.tx.toNat false)) ∧ Below w.heap.size w w' := by
  obtain ⟨tx, what, item⟩ := o
  obtain ⟨h1, h2⟩ := ho
  simp only at h1 h2
  obtain ⟨eb, heb⟩ : ∃ eb, es[tx.toNat]? = some eb := ⟨_, List.getElem?_eq_getElem (by omega)⟩
  have hlt := hB.lt
  have hc : (w.alloc (.cells #[.int .i64 tx, .int .i64 what, .int .i64 item] 91)).cell? ⟨g, tx.toNat, none⟩ = some (.bool eb) := (hB.alloc _).cellS (by rw [List.getElem?_map, heb]; rfl)
  have HR : Hid ((!es.getD tx.toNat false) = !eb) := by rw [List.getD_eq_getElem?_getD, heb]; exact rfl
  clear heb hB hes
  unfold HOp.val
  go_enter Tryz.func93, Tryz.ntmps93
  go_wp2
  go_ret
  exact ⟨ret_bool HR.out.symm, (Below.refl _ _).alloc (Nat.le_refl _) _⟩

theorem call_doneOf1 (args : Array Value) (w : World) : (callFunc 93 args).run Tryz.prog w = .ok (.enter 93 args) w := by kernel_rfl

set_option maxHeartbeats 1000000 in
theorem doneOf_any (A : Option Addr) (n cap : Nat) (h : List HOp) (w : World) (hr : Rd w w.heap.size 3 A n (cellsH h)) (hm : n ≤ 1000000) (ht : ∀ o ∈ h, 1 ≤ o.tx ∧ o.tx ≤ 6) :
    Calls Tryz.prog 49 #[.slice A n cap] w fun e w' => ∃ A' m c', e = .returned (.slice A' m c') ∧ w'.ownsRow w.heap.size 91 3 (.slice A' m c') m (cellsH (doneL h)) ∧ Below w.heap.size w w' := by
  have hl := hr.hlen
  have HL := Lib.hid hl
  have HT := Lib.hid ht
  clear hl ht
  go_enter Tryz.func49, Tryz.ntmps49
  go_wp2
  go_loopw [8] (fun i wr => ∃ (k : Nat) (es : List Bool), k ≤ n ∧ i = .int .i64 k ∧ es.length = 7 ∧ Blk wr w.heap.size 25 (es.map .bool) ∧ Hid (flagsF h = flagsGo es (h.drop k)) ∧ Below w.heap.size w wr)
    (fun i _ => n - (intOf i).toNat)
  case atStart => exact ⟨0, List.replicate 7 false, Nat.zero_le _, rfl, rfl, Blk.new w _ _, rfl, (Below.refl _ _).alloc (Nat.le_refl _) _⟩
  case round =>
    obtain ⟨k, es, hk, rfl, hes, hB, HE, hbw⟩ := hrel
    have hBlt := hB.lt
    by_cases hlt : k < n
    · obtain ⟨b, off, o, he, hb, ho, c0, c1, c2⟩ := (hr.below hbw).op (k := k) (by omega)
      cases he
      obtain ⟨h1, h2⟩ := HT.out o (List.mem_of_getElem? ho)
      obtain ⟨tx, what, item⟩ := o
      simp only at h1 h2 c0 c1 c2
      have HO : Hid (h.drop k = ⟨tx, what, item⟩ :: h.drop (k + 1)) := drop_at ho
      clear ho
      have hb' : b < wr.heap.size := by omega
      obtain ⟨eb, heb⟩ : ∃ eb, es[tx.toNat]? = some eb := ⟨_, List.getElem?_eq_getElem (by omega)⟩
      have hct : (wr.alloc (.cells #[.int .i64 tx, .int .i64 what, .int .i64 item] 91)).cell? ⟨w.heap.size, tx.toNat, none⟩ = some (.bool eb) := (hB.alloc _).cellS (by rw [List.getElem?_map, heb]; rfl)
      have hft : (wr.alloc (.cells #[.int .i64 tx, .int .i64 what, .int .i64 item] 91)).frozen? ⟨w.heap.size, tx.toNat, none⟩ = false := (hB.alloc _).frozen _
      have hz : tx.toNat < 7 := by omega
      cases eb
      · by_cases hw3 : what = 3
        · subst hw3
          have HF : Hid (flagsF h = flagsGo (es.set tx.toNat true) (h.drop (k + 1))) := Lib.hid (by rw [HE.out, HO.out]; simp [flagsGo, heb])
          clear heb
          go_wp2
          go_region
          all_goals
            go_wp2
            go_roundw
            case rel => exact ⟨k + 1, es.set tx.toNat true, by omega, by go_num, by simp [hes], by rw [List.map_set]; exact ((hB.put _ _).alloc _).drew, HF, ((hbw.setCell (Nat.le_refl _) _).alloc (by simp; omega) _).drew⟩
            case measure => simp [intOf]; omega
        · have HF : Hid (flagsF h = flagsGo (es.set tx.toNat false) (h.drop (k + 1))) := Lib.hid (by rw [HE.out, HO.out]; simp [flagsGo, heb, hw3])
          clear heb
          have hw4 : (what == 3) = false := by simpa using hw3
          go_wp2
          go_region
          all_goals
            go_wp2
            go_roundw
            case rel => exact ⟨k + 1, es.set tx.toNat false, by omega, by go_num, by simp [hes], by rw [List.map_set]; exact ((hB.put _ _).alloc _).drew, HF, ((hbw.setCell (Nat.le_refl _) _).alloc (by simp; omega) _).drew⟩
            case measure => simp [intOf]; omega
      · have HF : Hid (flagsF h = flagsGo (es.set tx.toNat true) (h.drop (k + 1))) := Lib.hid (by rw [HE.out, HO.out]; simp [flagsGo, heb])
        clear heb
        go_wp2
        go_region
        all_goals
          go_wp2
          go_roundw
          case rel => exact ⟨k + 1, es.set tx.toNat true, by omega, by go_num, by simp [hes], by rw [List.map_set]; exact ((hB.put _ _).alloc _).drew, HF, ((hbw.setCell (Nat.le_refl _) _).alloc (by simp; omega) _).drew⟩
          case measure => simp [intOf]; omega
    · have HF : Hid (es = flagsF h) := Lib.hid (by rw [HE.out, drop_end (by rw [HL.out]; omega)]; rfl)
      have C1 := hide (clone_op A n cap (cellsH h) wr ((hr.below hbw).more hbw.size) (oneH h) (by omega))
      go_wp2_with fail
      refine (unhide C1).mono ?_
      rintro e w1 ⟨v1, rfl, hown1, hb1⟩
      obtain ⟨A1, c1, rfl⟩ := own_slice hown1
      go_wp2_with fail
      have hz1 : wr.heap.size ≤ w1.heap.size := hb1.size
      refine (deleteFunc_op A1 n c1 wr.heap.size h 93 #[.pointer (some ⟨w.heap.size, 0, none⟩)] (fun o => !es.getD o.tx.toNat false) w1 hown1 hz1 (by omega) call_doneOf1 (fun o ho w' hw' =>
        doneOf1_any o es w.heap.size (HT.out o ho) w' ((hB.below hb1 hBlt).below hw' hBlt) hes)).mono ?_
      rintro e w2 ⟨m, rfl, hown2, hb2⟩
      have HQ : Hid (cellsH (doneL h) = cellsH (h.filter fun o => !!es.getD o.tx.toNat false)) := Lib.hid (by rw [doneL, ← HF.out]; simp)
      have HW : Hid (w2.ownsRow w.heap.size 91 3 (.slice A1 m c1) m (cellsH (doneL h)) ∧ Below w.heap.size w w2) := Lib.hid (by
        rw [HQ.out]
        refine ⟨own_mono hown2 hbw.size, (hbw.trans (hb1.mono hbw.size)).trans (hb2.mono hbw.size)⟩)
      clear hown2 hb2 HQ
      go_wp2
      go_ret
      exact ⟨A1, m, c1, rfl, HW.out.1, HW.out.2⟩

theorem checkGo_ok {es : List Bool} {i : Nat} {h : List HOp} (hc : checkGo es i h = (0, 0)) : ∀ o ∈ h, rightB o = true := by
  induction h generalizing es i with
  | nil => simp
  | cons o t ih =>
    unfold checkGo at hc
    split at hc
    · simp at hc
    · split at hc
      · simp at hc
      · rename_i h1 _
        intro x hx
        rcases List.mem_cons.1 hx with rfl | hx
        · simpa using h1
        · exact ih hc x hx
/-- A history that is right. -/
def okH (h : List HOp) : Prop := (checkF h).2 = 0
theorem checkGo_zero {es : List Bool} {i : Nat} {h : List HOp} (hc : (checkGo es i h).2 = 0) : checkGo es i h = (0, 0) := by
  induction h generalizing es i with
  | nil => rfl
  | cons o t ih =>
    unfold checkGo at hc ⊢
    split
    · rename_i h1; simp [h1] at hc
    · rename_i h1
      rw [if_neg h1] at hc
      split
      · rename_i h2; rw [if_pos h2] at hc; simp at hc
      · rename_i h2
        rw [if_neg h2] at hc
        exact ih hc
theorem okH_len {h : List HOp} (hk : okH h) : h.length ≤ 40 := by
  unfold okH checkF at hk
  split at hk
  · simp at hk
  · omega
theorem okH_go {h : List HOp} (hk : okH h) : checkGo (List.replicate 7 false) 0 h = (0, 0) := by
  have := okH_len hk
  unfold okH checkF at hk
  rw [if_neg (by omega)] at hk
  exact checkGo_zero hk
theorem okH_right {h : List HOp} (hk : okH h) : ∀ o ∈ h, rightB o = true := checkGo_ok (okH_go hk)
theorem okH_tx {h : List HOp} (hk : okH h) : ∀ o ∈ h, 1 ≤ o.tx ∧ o.tx ≤ 6 := fun o ho => by
  have := okH_right hk o ho
  simp [rightB, txB] at this
  omega
end Go.Proofs.YtaaahfbcpgdoiaaGreatDoor


namespace Go.Proofs.YtaaahfbcpgdoiaaGreatDoor
open Go.RowKit

/-! ### A text cut at each byte c. -/
def cutL (c : UInt8) : List UInt8 → List (List UInt8)
  | [] => [[]]
  | b :: l => if b = c then [] :: cutL c l else match cutL c l with
    | [] => [[b]]
    | x :: r => (b :: x) :: r
theorem cutL_ne (c : UInt8) : ∀ s, cutL c s ≠ []
  | [] => by simp [cutL]
  | b :: l => by
    unfold cutL
    split
    · simp
    · split <;> simp
theorem cutL_cons {c b : UInt8} (h : b ≠ c) (l : List UInt8) : ∃ x r, cutL c l = x :: r ∧ cutL c (b :: l) = (b :: x) :: r := by
  cases e : cutL c l with
  | nil => exact absurd e (cutL_ne c l)
  | cons x r => exact ⟨x, r, rfl, by rw [cutL, if_neg h, e]⟩
theorem cutL_no {c : UInt8} : ∀ {s : List UInt8}, c ∉ s → cutL c s = [s]
  | [], _ => rfl
  | b :: l, h => by
    rw [List.mem_cons, not_or] at h
    obtain ⟨x, r, e1, e2⟩ := cutL_cons (fun e => h.1 e.symm) l
    rw [cutL_no h.2] at e1
    injection e1 with e1 e3
    rw [e2, ← e1, ← e3]
theorem cutL_at {c : UInt8} : ∀ (a : List UInt8) (s : List UInt8), c ∉ a → cutL c (a ++ c :: s) = a :: cutL c s
  | [], s, _ => by rw [List.nil_append, cutL, if_pos rfl]
  | b :: a, s, h => by
    rw [List.mem_cons, not_or] at h
    obtain ⟨x, r, e1, e2⟩ := cutL_cons (c := c) (fun e => h.1 e.symm) (a ++ c :: s)
    rw [cutL_at a s h.2] at e1
    injection e1 with e1 e3
    rw [List.cons_append, e2, ← e1, ← e3]
theorem inter_cons (c : UInt8) (x y : List UInt8) (r : List (List UInt8)) : [c].intercalate (x :: y :: r) = x ++ c :: [c].intercalate (y :: r) := by simp [List.intercalate, List.intersperse]
theorem inter_one (c : UInt8) (x : List UInt8) : [c].intercalate [x] = x := by simp [List.intercalate]
theorem cut_join {c : UInt8} : ∀ {ws : List (List UInt8)}, ws ≠ [] → (∀ w ∈ ws, c ∉ w) → cutL c ([c].intercalate ws) = ws
  | [], h, _ => absurd rfl h
  | [x], _, h => by rw [inter_one, cutL_no (h x List.mem_cons_self)]
  | x :: y :: r, _, h => by
    rw [inter_cons, cutL_at _ _ (h x List.mem_cons_self), cut_join (by simp) fun w hw => h w (List.mem_cons_of_mem _ hw)]
theorem join_cut (c : UInt8) : ∀ s : List UInt8, [c].intercalate (cutL c s) = s
  | [] => rfl
  | b :: l => by
    have ih := join_cut c l
    by_cases h : b = c
    · rw [cutL, if_pos h]
      cases e : cutL c l with
      | nil => exact absurd e (cutL_ne c l)
      | cons x r => rw [inter_cons, ← e, ih, h]; rfl
    · obtain ⟨x, r, e1, e2⟩ := cutL_cons h l
      rw [e1] at ih
      rw [e2]
      cases r with
      | nil => rw [inter_one] at ih ⊢; rw [ih]
      | cons y r => rw [inter_cons] at ih ⊢; rw [List.cons_append, ih]
theorem cutL_len (c : UInt8) : ∀ s : List UInt8, (cutL c s).length ≤ s.length + 1
  | [] => Nat.le_refl _
  | b :: l => by
    have ih := cutL_len c l
    by_cases h : b = c
    · rw [cutL, if_pos h]; simp; exact ih
    · obtain ⟨x, r, e1, e2⟩ := cutL_cons h l
      rw [e1] at ih
      rw [e2]; simp at ih ⊢; omega
theorem cutL_piece (c : UInt8) : ∀ (s : List UInt8), ∀ w ∈ cutL c s, w.length ≤ s.length
  | [], w, h => by simp [cutL] at h; rw [h]; exact Nat.le_refl _
  | b :: l, w, h => by
    have ih := cutL_piece c l
    by_cases e : b = c
    · rw [cutL, if_pos e] at h
      rcases List.mem_cons.1 h with h | h
      · rw [h]; simp
      · have := ih w h; simp; omega
    · obtain ⟨x, r, e1, e2⟩ := cutL_cons e l
      rw [e2] at h
      rcases List.mem_cons.1 h with h | h
      · have := ih x (by rw [e1]; exact List.mem_cons_self)
        rw [h]; simp; exact this
      · have := ih w (by rw [e1]; exact List.mem_cons_of_mem _ h)
        simp; omega
/-- The kit's word for it. -/
theorem split_cut (c : UInt8) : ∀ s : List UInt8, Go.Lib.splitK [c] 0 (Go.Lib.count s [c]) s = cutL c s
  | [] => by
    rw [Go.Lib.count_miss (by simp [Go.Lib.index])]; rfl
  | b :: l => by
    have ih := split_cut c l
    have hix : Go.Lib.index (b :: l) [c] = if ([c] : List UInt8).isPrefixOf (b :: l) then 0 else if Go.Lib.index l [c] == -1 then -1 else Go.Lib.index l [c] + 1 := rfl
    by_cases h : b = c
    · subst h
      have h0 : Go.Lib.index (b :: l) [b] = ((0 : Nat) : Int) := by rw [hix]; simp [List.isPrefixOf]
      rw [Go.Lib.count_hit (by simp) h0, cutL, if_pos rfl, Nat.add_comm]
      show (if Go.Lib.index (b :: l) [b] == -1 then _ else _) = _
      rw [h0, if_neg (by decide), ← ih]
      simp
    · have hp : ([c] : List UInt8).isPrefixOf (b :: l) = false := by simp [List.isPrefixOf, Ne.symm h]
      rw [hp, if_neg (by simp)] at hix
      obtain ⟨x, r, e1, e2⟩ := cutL_cons h l
      rw [e2]
      by_cases hm : Go.Lib.index l [c] = -1
      · rw [hm, if_pos (by decide)] at hix
        rw [Go.Lib.count_miss hix]
        rw [Go.Lib.count_miss hm, e1] at ih
        change [l] = x :: r at ih
        injection ih with i1 i2
        rw [← i1, ← i2]; rfl
      · have hge := Go.Lib.index_ge l [c]
        obtain ⟨j, hj⟩ : ∃ j : Nat, Go.Lib.index l [c] = j := ⟨(Go.Lib.index l [c]).toNat, by omega⟩
        rw [hj] at hix
        have hix' : Go.Lib.index (b :: l) [c] = ((j + 1 : Nat) : Int) := by rw [hix, if_neg (by simp)]; omega
        rw [Go.Lib.count_hit (by simp) hj, Nat.add_comm] at ih
        rw [Go.Lib.count_hit (by simp) hix', Nat.add_comm]
        change (if Go.Lib.index l [c] == -1 then _ else _) = _ at ih
        show (if Go.Lib.index (b :: l) [c] == -1 then _ else _) = _
        rw [hj, if_neg (by simp), e1] at ih
        rw [hix', if_neg (by simp; omega)]
        injection ih with i1 i2
        rw [← i1, ← i2]
        simp

/-! ### Ops as text. -/
def whatL (w : Int) : UInt8 := if w = 1 then 114 else if w = 2 then 119 else if w = 3 then 99 else 97
def textL (o : HOp) : List UInt8 := [whatL o.what, UInt8.ofNat (48 + o.tx.toNat)] ++ if o.what < 3 then [40, UInt8.ofNat (96 + o.item.toNat), 41] else []
def printL (h : List HOp) : List UInt8 := [32].intercalate (h.map textL)
def allOps : List HOp := ([1, 2, 3, 4, 5, 6] : List Int).flatMap fun t => (([1, 2, 3, 4, 5, 6] : List Int).flatMap fun i => [⟨t, 1, i⟩, ⟨t, 2, i⟩]) ++ [⟨t, 3, 0⟩, ⟨t, 4, 0⟩]
theorem mem_allOps {o : HOp} : rightB o = true ↔ o ∈ allOps := by
  constructor
  · intro h
    obtain ⟨h1, h2, h3, h4, h5, h6⟩ := rightB_get h
    obtain ⟨t, a, i⟩ := o
    simp only at *
    have ht : t = 1 ∨ t = 2 ∨ t = 3 ∨ t = 4 ∨ t = 5 ∨ t = 6 := by omega
    by_cases ha : a < 3
    · obtain ⟨i1, i2⟩ := h5 ha
      have ha2 : a = 1 ∨ a = 2 := by omega
      have hi : i = 1 ∨ i = 2 ∨ i = 3 ∨ i = 4 ∨ i = 5 ∨ i = 6 := by omega
      rcases ht with rfl | rfl | rfl | rfl | rfl | rfl <;> rcases ha2 with rfl | rfl <;> rcases hi with rfl | rfl | rfl | rfl | rfl | rfl <;> decide
    · have hi := h6 (by omega)
      have ha2 : a = 3 ∨ a = 4 := by omega
      subst hi
      rcases ht with rfl | rfl | rfl | rfl | rfl | rfl <;> rcases ha2 with rfl | rfl <;> decide
  · intro h
    have key : ∀ o ∈ allOps, rightB o = true := by decide
    exact key o h
/-- The op that a word is. -/
def wordF (w : List UInt8) : Option HOp := allOps.find? fun o => decide (textL o = w)
theorem text_inj : ∀ a ∈ allOps, ∀ b ∈ allOps, textL a = textL b → a = b := by decide +kernel
theorem wordF_text {o : HOp} (h : rightB o = true) : wordF (textL o) = some o := by
  have hm := mem_allOps.1 h
  cases e : wordF (textL o) with
  | none =>
    unfold wordF at e
    have := List.find?_eq_none.1 e o hm
    simp at this
  | some p =>
    have h1 := List.mem_of_find?_eq_some e
    have h2 := List.find?_some e
    rw [decide_eq_true_eq] at h2
    rw [text_inj p h1 o hm h2]
theorem wordF_some {w : List UInt8} {o : HOp} (h : wordF w = some o) : rightB o = true ∧ textL o = w := by
  refine ⟨mem_allOps.2 (List.mem_of_find?_eq_some h), ?_⟩
  have h2 := List.find?_some h
  rwa [decide_eq_true_eq] at h2
theorem text_free : ∀ o ∈ allOps, (32 : UInt8) ∉ textL o ∧ (10 : UInt8) ∉ textL o ∧ 2 ≤ (textL o).length ∧ (textL o).length ≤ 5 := by decide +kernel
def wordsF : List (List UInt8) → Option (List HOp)
  | [] => some []
  | w :: r => match wordF w with
    | none => none
    | some o => match wordsF r with
      | none => none
      | some h => some (o :: h)
/-- What a text parses as: its fault, its ops. -/
def parseE (s : List UInt8) : Int := if s = [] then 0 else match wordsF (cutL 32 s) with
  | none => 2
  | some h => (checkF h).2
def parseL (s : List UInt8) : List HOp := if s = [] then [] else match wordsF (cutL 32 s) with
  | none => []
  | some h => if (checkF h).2 = 0 then h else []
theorem wordsF_text : ∀ {h : List HOp}, (∀ o ∈ h, rightB o = true) → wordsF (h.map textL) = some h
  | [], _ => rfl
  | o :: t, h => by
    rw [List.map_cons, wordsF, wordF_text (h o List.mem_cons_self), wordsF_text fun x hx => h x (List.mem_cons_of_mem _ hx)]
theorem wordsF_some : ∀ {ws : List (List UInt8)} {h : List HOp}, wordsF ws = some h → (∀ o ∈ h, rightB o = true) ∧ h.map textL = ws
  | [], h, e => by
    injection e with e
    subst e
    exact ⟨fun _ h => (by cases h), rfl⟩
  | w :: r, h, e => by
    unfold wordsF at e
    split at e
    · cases e
    · rename_i o ho
      split at e
      · cases e
      · rename_i t ht
        injection e with e
        subst e
        obtain ⟨h1, h2⟩ := wordF_some ho
        obtain ⟨h3, h4⟩ := wordsF_some ht
        refine ⟨fun x hx => ?_, by rw [List.map_cons, h2, h4]⟩
        rcases List.mem_cons.1 hx with rfl | hx
        · exact h1
        · exact h3 x hx
theorem printL_nil_iff {h : List HOp} (hr : ∀ o ∈ h, rightB o = true) : printL h = [] ↔ h = [] := by
  constructor
  · intro e
    cases h with
    | nil => rfl
    | cons o t =>
      exfalso
      have h2 := (text_free o (mem_allOps.1 (hr o List.mem_cons_self))).2.2.1
      unfold printL at e
      cases t with
      | nil => rw [List.map_cons, List.map_nil, inter_one] at e; rw [e] at h2; simp at h2
      | cons p t => rw [List.map_cons, List.map_cons, inter_cons] at e; have := congrArg List.length e; simp at this
  · intro e; rw [e]; rfl
/-- A history is read as it was. -/
theorem parse_print {h : List HOp} (hk : okH h) : parseE (printL h) = 0 ∧ parseL (printL h) = h := by
  have hr := okH_right hk
  by_cases e : h = []
  · subst e; exact ⟨rfl, rfl⟩
  · have hne : printL h ≠ [] := fun e' => e ((printL_nil_iff hr).1 e')
    have hw : cutL 32 (printL h) = h.map textL := cut_join (by simpa using e) fun w hw => by
      obtain ⟨o, ho, rfl⟩ := List.mem_map.1 hw
      exact (text_free o (mem_allOps.1 (hr o ho))).1
    have hz : (checkF h).2 = 0 := hk
    unfold parseE parseL
    rw [if_neg hne, if_neg hne, hw, wordsF_text hr]
    exact ⟨hz, if_pos hz⟩
theorem print_parse {s : List UInt8} (h : parseE s = 0) : okH (parseL s) ∧ printL (parseL s) = s := by
  unfold parseE at h
  unfold parseL
  by_cases e : s = []
  · rw [if_pos e, e]; exact ⟨by show (checkF []).2 = 0; decide, rfl⟩
  · rw [if_neg e] at h ⊢
    cases hw : wordsF (cutL 32 s) with
    | none => rw [hw] at h; cases h
    | some x =>
      rw [hw] at h
      simp only at h ⊢
      rw [if_pos h]
      refine ⟨h, ?_⟩
      unfold printL
      rw [(wordsF_some hw).2, join_cut]
theorem parseL_bad {s : List UInt8} (h : parseE s ≠ 0) : parseL s = [] := by
  unfold parseE at h
  unfold parseL
  by_cases e : s = []
  · rw [if_pos e]
  · rw [if_neg e] at h ⊢
    cases hw : wordsF (cutL 32 s) with
    | none => rfl
    | some x =>
      rw [hw] at h
      exact if_neg h
theorem printL_snoc (h : List HOp) (o : HOp) : printL (h ++ [o]) = if h = [] then textL o else printL h ++ 32 :: textL o := by
  induction h with
  | nil => rw [if_pos rfl]; exact inter_one _ _
  | cons p t ih =>
    rw [if_neg (by simp)]
    unfold printL at *
    cases t with
    | nil => simp only [List.cons_append, List.nil_append, List.map_cons, List.map_nil]; rw [inter_cons, inter_one, inter_one]
    | cons q t =>
      rw [if_neg (by simp)] at ih
      simp only [List.cons_append, List.map_cons] at ih ⊢
      rw [inter_cons, ih, inter_cons]
      simp
theorem printL_len : ∀ (h : List HOp), (∀ o ∈ h, rightB o = true) → (printL h).length ≤ 6 * h.length
  | [], _ => Nat.le_refl _
  | [o], hr => by
    have := (text_free o (mem_allOps.1 (hr o List.mem_cons_self))).2.2.2
    unfold printL
    rw [List.map_cons, List.map_nil, inter_one]
    simp; omega
  | o :: p :: t, hr => by
    have h1 := (text_free o (mem_allOps.1 (hr o List.mem_cons_self))).2.2.2
    have h2 := printL_len (p :: t) fun x hx => hr x (List.mem_cons_of_mem _ hx)
    unfold printL at h2 ⊢
    rw [List.map_cons, List.map_cons, inter_cons]
    rw [List.map_cons] at h2
    simp only [List.length_append, List.length_cons] at h2 ⊢
    omega
end Go.Proofs.YtaaahfbcpgdoiaaGreatDoor


namespace Go.Proofs.YtaaahfbcpgdoiaaGreatDoor
open Go.RowKit

/-! ### Lines of a text, each with its end. -/
def linesGo (cur : List UInt8) : List UInt8 → List (List UInt8)
  | [] => if cur = [] then [] else [cur]
  | b :: t => if b = 10 then (cur ++ [b]) :: linesGo [] t else linesGo (cur ++ [b]) t
def linesL (t : List UInt8) : List (List UInt8) := linesGo [] t
theorem linesGo_no : ∀ (t cur : List UInt8), (10 : UInt8) ∉ t → linesGo cur t = if cur ++ t = [] then [] else [cur ++ t]
  | [], cur, _ => by unfold linesGo; simp
  | b :: t, cur, h => by
    unfold linesGo
    rw [if_neg (fun e => h (by rw [e]; exact List.mem_cons_self)), linesGo_no t (cur ++ [b]) (fun h2 => h (List.mem_cons_of_mem _ h2))]
    simp
theorem linesGo_at : ∀ (u t cur : List UInt8), (10 : UInt8) ∉ u → linesGo cur (u ++ 10 :: t) = (cur ++ u ++ [10]) :: linesGo [] t
  | [], t, cur, _ => by
    show linesGo cur (10 :: t) = _
    rw [linesGo, if_pos rfl]; simp
  | b :: u, t, cur, h => by
    show linesGo cur (b :: (u ++ 10 :: t)) = _
    rw [linesGo, if_neg (fun e => h (by rw [e]; exact List.mem_cons_self)), linesGo_at u t (cur ++ [b]) (fun h2 => h (List.mem_cons_of_mem _ h2))]
    simp
/-- The first line, and what is behind it. -/
theorem lines_at {u t : List UInt8} (h : (10 : UInt8) ∉ u) : linesL (u ++ 10 :: t) = (u ++ [10]) :: linesL t := by
  unfold linesL
  rw [linesGo_at u t [] h]; rfl
theorem lines_no {t : List UInt8} (h : (10 : UInt8) ∉ t) (h0 : t ≠ []) : linesL t = [t] := by
  unfold linesL
  rw [linesGo_no t [] h, List.nil_append, if_neg h0]
theorem lines_nil : linesL [] = [] := rfl
/-- A text that ends with a line's end is read on behind it. -/
theorem linesGo_app : ∀ (a b cur : List UInt8), linesGo cur (a ++ 10 :: b) = linesGo cur (a ++ [10]) ++ linesGo [] b
  | [], b, cur => by
    show linesGo cur (10 :: b) = linesGo cur [10] ++ _
    rw [linesGo, if_pos rfl, linesGo, if_pos rfl]
    rfl
  | x :: a, b, cur => by
    show linesGo cur (x :: (a ++ 10 :: b)) = linesGo cur (x :: (a ++ [10])) ++ _
    rw [linesGo]
    conv => rhs; rw [linesGo]
    split
    · rw [linesGo_app a b []]; rfl
    · rw [linesGo_app a b (cur ++ [x])]
theorem lines_app (a b : List UInt8) : linesL (a ++ [10] ++ b) = linesL (a ++ [10]) ++ linesL b := by
  unfold linesL
  rw [List.append_assoc]
  exact linesGo_app a b []
/-- A line without its end. -/
def trimN (s : List UInt8) : List UInt8 := if s.getLast? = some 10 then s.dropLast else s
theorem trimN_at (u : List UInt8) : trimN (u ++ [10]) = u := by unfold trimN; simp

/-! ### What a line is answered. -/
def rowW (l : List (List UInt8)) : List UInt8 := if l = [] then [45] else [32].intercalate l
def errN (e : Int) : List UInt8 :=
  if e = 0 then [79, 75] else if e = 1 then [69, 114, 114, 82, 97, 110, 103, 101] else if e = 2 then [69, 114, 114, 83, 121, 110, 116, 97, 120] else if e = 3 then [69, 114, 114, 83, 104, 97, 112, 101] else if e = 4 then [69, 114, 114, 70, 117, 108, 108] else if e = 5 then [69, 114, 114, 78, 111, 110, 101] else if e = 6 then [69, 114, 114, 83, 116, 97, 116, 101] else if e = 7 then [69, 114, 114, 67, 108, 97, 115, 104] else if e = 8 then [69, 114, 114, 67, 121, 99, 108, 101] else [69, 114, 114, 110, 111]
/-- A line's answer: a text, or a fault; 9: the line is none that may be. -/
def ansE (r : List UInt8 × Int) : List UInt8 := if r.2 = 0 then r.1 else if r.2 = 9 then [98, 97, 100] else errN r.2
def flagsW (l : List (List UInt8 × Bool)) : List UInt8 := rowW ((l.filter (·.2)).map (·.1))
end Go.Proofs.YtaaahfbcpgdoiaaGreatDoor
