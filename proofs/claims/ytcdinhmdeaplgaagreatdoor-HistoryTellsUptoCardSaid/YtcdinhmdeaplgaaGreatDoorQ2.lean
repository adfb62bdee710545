
/-
  CONTRACTS of slices.Clone at []api.Op and []int.
  CONTRACTS of slices.IndexFunc, ContainsFunc, DeleteFunc over slices of three-number structs, for whatever test a function value makes.
  THE ROW's LAST STEP where of the world behind the call 'Below' alone is known (turned from the guide's own last step).
  ARGUMENTS OPENED: a slice of three-number structs, of numbers, as it is read before the call.
  CONTRACTS of errors.As at the target *api.Errno, plain.Told, lanesame.Error: whether an error is the one told.
  THE LISTED VARIABLE errors.errorType: what the row's condition gives a walk; a world that meets it.
-/
import Derived.Test.YtcdinhmdeaplgaaGreatDoorApp
import Derived.Lib.SliceRun
import Derived.Test.YtcdinhmdeaplgaaGreatDoorQ0
import Derived.ProofKit
import Derived.OpenShut
import Derived.ChangeSame
import Derived.Deep.Slices
import Derived.Deep.Fields
import Derived.SizedLaws
import Derived.WalkKit
import Derived.LaidEql
import Derived.Stop.Asserts
import Derived.RowKitTokens
import Derived.Test.YtcdinhmdeaplgaaGreatDoorTie
import Derived.Test.YtcdinhmdeaplgaaGreatDoorCards
import Derived.ChangeVars
import Derived.JoinedOf
import Derived.RowKit
import Derived.LaidLaws
import Derived.LaidHandle
import Derived.Stop.Joined
import Derived.Lib.SmallJoins

namespace Go.Proofs.YtcdinhmdeaplgaaGreatDoor
open Go.RowKit
theorem slt_op : SlT Tryz.prog 22 50 3 24 := slt_of (z := .agg #[.int .i64 0, .int .i64 0, .int .i64 0]) Tryz.underlying22 (by kernel_rfl) (by kernel_rfl) (by decide) (by decide)

set_option maxHeartbeats 400000 in
theorem clone_op (A : Option Addr) (n cap : Nat) (xs : List Value) (w : World) (hr : Rd w w.heap.size 3 A n xs) (h1 : ∀ u ∈ xs, u.oneCell' = true) (hm : n * 24 ≤ 140737488355328) :
    Calls Tryz.prog 41 #[.slice A n cap] w fun e w' => ∃ v, e = .returned v ∧ w'.ownsRow w.heap.size 50 3 v n xs ∧ Below w.heap.size w w' := by
  have hnil := fun (w : World) => Lib.run_eql_slice_nil (P := Tryz.prog) w 22 50 A n cap 0 0 Tryz.underlying22
  rcases A with _ | ad
  · have h0 : n = 0 := by
      rcases Nat.eq_zero_or_pos n with h | h
      · exact h
      · obtain ⟨_, _, h, _⟩ := hr.2 h
        cases h
    subst h0
    have hx : xs = [] := List.eq_nil_of_length_eq_zero (by simpa using hr.1)
    subst hx
    clear h1 hr
    go_enter Tryz.func41, Tryz.ntmps41
    go_wp2
    go_ret
    exact ⟨_, rfl, World.ownsRow_nil _ _ _ _, Below.refl _ _⟩
  · have H1 := Lib.hid h1
    clear h1
    go_enter Tryz.func41, Tryz.ntmps41
    go_wp2_with (at_builtin; refine wpList_app rfl _ _ _ rfl w.heap.size slt_op rfl (World.ownsRow_made w #[] 0 (Nat.le_refl _) (by decide) rfl) rfl (hr.alloc (Nat.le_refl _) _) H1.out (by omega) (by simp) ?_; intro v1 w1 hown1 hg1 hb1 hat1 hne1)
    go_ret
    exact ⟨_, rfl, by simpa using hown1, ((Below.refl _ _).alloc (Nat.le_refl _) _).trans hb1⟩
theorem slt_int : SlT Tryz.prog 30 3 1 8 := slt_of (z := .int .i64 0) Tryz.underlying30 (by kernel_rfl) (by kernel_rfl) (by decide) (by decide)

end Go.Proofs.YtcdinhmdeaplgaaGreatDoor


namespace Go.Proofs.YtcdinhmdeaplgaaGreatDoor
open Go.RowKit
def idxGo {α : Type} (p : α → Bool) (k : Int) : List α → Int
  | [] => -1
  | o :: t => if p o then k else idxGo p (k + 1) t
theorem idxGo_spec {α : Type} (p : α → Bool) (k : Int) (l : List α) :
    ((∀ o ∈ l, p o = false) ∧ idxGo p k l = -1) ∨ ∃ (i : Nat) (o : α), l[i]? = some o ∧ p o = true ∧ (∀ x ∈ l.take i, p x = false) ∧ idxGo p k l = k + i := by
  induction l generalizing k with
  | nil => exact .inl ⟨by simp, rfl⟩
  | cons a t ih =>
    cases hp : p a
    · rcases ih (k + 1) with ⟨h1, h2⟩ | ⟨i, o, h1, h2, h3, h4⟩
      · exact .inl ⟨by simpa [hp] using h1, by simp [idxGo, hp, h2]⟩
      · exact .inr ⟨i + 1, o, by simpa using h1, h2, by simpa [hp] using h3, by simp [idxGo, hp, h4]; omega⟩
    · exact .inr ⟨0, a, by simp, hp, by simp, by simp [idxGo, hp]⟩
set_option maxHeartbeats 400000 in
theorem indexFunc_op (A : Option Addr) (n cap : Nat) (h : List HOp) (F : FuncId) (caps : Array Value) (p : HOp → Bool) (w : World) (hr : Rd w w.heap.size 3 A n (cellsH h)) (hm : n ≤ 6000000000000)
    (hcall : ∀ (args : Array Value) (w : World), (callFunc F args).run Tryz.prog w = .ok (.enter F args) w)
    (hf : ∀ o ∈ h, ∀ w', Below w.heap.size w w' → Calls Tryz.prog F (#[o.val] ++ caps) w' fun e w'' => e = .returned (.bool (p o)) ∧ Below w'.heap.size w' w'') :
    Calls Tryz.prog 56 #[.slice A n cap, .func (.func F) #[] caps] w fun e w' => e = .returned (.int .i64 (idxGo p 0 h)) ∧ Below w.heap.size w w' := by
  have hl := hr.hlen
  have HL := Lib.hid hl
  have HF := Lib.hid hf
  clear hl hf
  go_enter Tryz.func56, Tryz.ntmps56
  go_wp2
  go_loopw [8] (fun i wr => ∃ k : Nat, k ≤ n ∧ i = .int .i64 k ∧ Hid (idxGo p 0 h = idxGo p k (h.drop k)) ∧ Below w.heap.size w wr) (fun i _ => n - (intOf i).toNat)
  case atStart => exact ⟨0, Nat.zero_le _, rfl, rfl, Below.refl _ _⟩
  case round =>
    obtain ⟨k, hk, rfl, HE, hbw⟩ := hrel
    by_cases hlt : k < n
    · obtain ⟨b, off, o, he, hb, ho, c0, c1, c2⟩ := (hr.below hbw).op (k := k) (by omega)
      cases he
      have HO := Lib.hid (drop_at ho)
      have hmem := Lib.hid (List.mem_of_getElem? ho)
      clear ho
      cases hP : p o
      · have HE2 : Hid (idxGo p 0 h = idxGo p (k + 1) (h.drop (k + 1))) := Lib.hid (by rw [HE.out, HO.out]; simp [idxGo, hP])
        go_wp2_with fail
        refine (HF.out o hmem.out wr hbw).mono ?_
        rintro e w1 ⟨rfl, hb1⟩
        rw [hP]
        go_wp2
        go_roundw
        case rel => exact ⟨k + 1, by omega, by go_num, HE2, hbw.trans (hb1.mono hbw.size)⟩
        case measure => simp [intOf]; omega
      · have HE2 : Hid (idxGo p 0 h = k) := Lib.hid (by rw [HE.out, HO.out]; simp [idxGo, hP])
        go_wp2_with fail
        refine (HF.out o hmem.out wr hbw).mono ?_
        rintro e w1 ⟨rfl, hb1⟩
        rw [hP]
        go_wp2
        go_ret
        exact ⟨ret_int HE2.out.symm, hbw.trans (hb1.mono hbw.size)⟩
    · have HE2 : Hid (idxGo p 0 h = -1) := Lib.hid (by rw [HE.out, drop_end (by rw [HL.out]; omega)]; rfl)
      go_wp2
      go_ret
      exact ⟨ret_int HE2.out.symm, hbw⟩
set_option maxRecDepth 100000 in
set_option maxHeartbeats 1000000 in
theorem deleteFunc_op (A : Option Addr) (n cap base : Nat) (h : List HOp) (F : FuncId) (caps : Array Value) (p : HOp → Bool) (w : World) (hown : w.ownsRow base 50 3 (.slice A n cap) n (cellsH h)) (hbase : base ≤ w.heap.size) (hm : n ≤ 6000000000000)
    (hcall : ∀ (args : Array Value) (w : World), (callFunc F args).run Tryz.prog w = .ok (.enter F args) w)
    (hf : ∀ o ∈ h, ∀ w', Below base w w' → Calls Tryz.prog F (#[o.val] ++ caps) w' fun e w'' => e = .returned (.bool (p o)) ∧ Below w'.heap.size w' w'') :
    Calls Tryz.prog 40 #[.slice A n cap, .func (.func F) #[] caps] w fun e w' => ∃ m, e = .returned (.slice A m cap) ∧ w'.ownsRow base 50 3 (.slice A m cap) m (cellsH (h.filter fun o => !p o)) ∧ Below base w w' := by
  have hl := (rd_own hown).hlen
  have HL := Lib.hid hl
  have C := indexFunc_op A n cap h F caps p w (rd_own hown) hm hcall (fun o ho w' hw => hf o ho w' (hw.mono hbase))
  have HF := Lib.hid hf
  rcases idxGo_spec p 0 h with ⟨hno, hi⟩ | ⟨i0, o0, ho0, hp0, hno, hi⟩
  · rw [hi] at C
    have HC := hide C
    have HQ : Hid (h.filter (fun o => !p o) = h) := Lib.hid (List.filter_eq_self.2 fun o ho => by rw [hno o ho]; rfl)
    clear hl hf C hi hno
    go_enter Tryz.func40, Tryz.ntmps40
    go_wp2_with fail
    refine (unhide HC).mono ?_
    rintro e w1 ⟨rfl, hb1⟩
    go_wp2
    go_ret
    exact ⟨n, rfl, by rw [HQ.out]; exact own_below hown hb1 (Nat.le_refl _), hb1.mono hbase⟩
  · have hi0 : i0 < n := by rw [← hl]; exact (List.getElem?_eq_some_iff.1 ho0).1
    obtain ⟨g, rfl⟩ : ∃ g, A = some ⟨g, 0, none⟩ := by
      rcases hown.2 with ⟨_, h0⟩ | ⟨g, _, _, hv, _⟩
      · omega
      · injection hv with hA; exact ⟨g, hA⟩
    have hgb : base ≤ g ∧ g < w.heap.size := hown.lt g rfl
    have hncap : n ≤ cap := by
      rcases hown.2 with ⟨_, h0⟩ | ⟨_, _, _, hv, _, _, hnc, _⟩
      · omega
      · injection hv with _ _ hc; omega
    have HI : Hid ((h.take (i0 + 1)).filter (fun o => !p o) = h.take i0) := Lib.hid (by
      rw [List.take_succ_eq_append_getElem (List.getElem?_eq_some_iff.1 ho0).1, List.filter_append, (List.getElem?_eq_some_iff.1 ho0).2]
      rw [List.filter_eq_self.2 fun o ho => by rw [hno o ho]; rfl]
      simp [hp0])
    rw [Int.zero_add] at hi
    rw [hi] at C
    have HC := hide C
    clear hl hf C hi hno ho0 hp0
    have hne : ((i0 : Int) == -1) = false := by rw [beq_eq_false_iff_ne]; omega
    go_enter Tryz.func40, Tryz.ntmps40
    go_wp2_with fail
    refine (unhide HC).mono ?_
    rintro e w1 ⟨rfl, hb1⟩
    go_wp2
    clear hne
    have hown1 := own_below hown hb1 (Nat.le_refl _)
    have hbw1 : Below base w w1 := hb1.mono hbase
    clear hb1 hown
    go_loopw [5, 6] (fun s5 s6 wr => ∃ (i j : Nat) (L : List HOp), i < j ∧ j ≤ n ∧ s5 = .int .i64 i ∧ s6 = .int .i64 j ∧ wr.ownsRow base 50 3 (.slice (some ⟨g, 0, none⟩) n cap) n (cellsH L) ∧ Hid (L.length = n ∧ L.take i = (h.take j).filter (fun o => !p o) ∧ L.drop j = h.drop j) ∧ Below base w wr)
      (fun _ s6 _ => n - (intOf s6).toNat)
    case atStart => exact ⟨i0, i0 + 1, h, by omega, by omega, rfl, by go_num, hown1, ⟨HL.out, HI.out.symm, rfl⟩, hbw1⟩
    case round =>
      obtain ⟨i, j, L, hij, hj, rfl, rfl, hownr, HK, hbw⟩ := hrel
      have hgr : g < wr.heap.size := (hownr.lt g rfl).2
      by_cases hlt : j < n
      · obtain ⟨b, off, o, he, hb, ho, c0, c1, c2⟩ := (rd_own hownr).op (k := j) (by omega)
        cases he
        simp only [Nat.zero_add] at c0 c1 c2
        have HO : Hid (h[j]? = some o ∧ o ∈ h) := by
          have : h[j]? = some o := by
            have h1 := congrArg (fun l => l[0]?) HK.out.2.2
            simpa [ho] using h1.symm
          exact ⟨this, List.mem_of_getElem? this⟩
        clear ho
        have D0 : ∃ v, wr.cell? ⟨g, i * 3, none⟩ = some v := ⟨_, (hownr.cellAt (i * 3) (by omega)).trans (List.getElem?_eq_getElem (by rw [hownr.1]; omega))⟩
        have D1 : ∃ v, wr.cell? ⟨g, i * 3 + 1, none⟩ = some v := ⟨_, (hownr.cellAt (i * 3 + 1) (by omega)).trans (List.getElem?_eq_getElem (by rw [hownr.1]; omega))⟩
        have D2 : ∃ v, wr.cell? ⟨g, i * 3 + 2, none⟩ = some v := ⟨_, (hownr.cellAt (i * 3 + 2) (by omega)).trans (List.getElem?_eq_getElem (by rw [hownr.1]; omega))⟩
        obtain ⟨x0, d0⟩ := D0
        obtain ⟨x1, d1⟩ := D1
        obtain ⟨x2, d2⟩ := D2
        have f0 := hownr.frozenAt (i * 3)
        have f1 := hownr.frozenAt (i * 3 + 1)
        have f2 := hownr.frozenAt (i * 3 + 2)
        cases hP : p o
        · go_wp2_with fail
          refine (HF.out o HO.out.2 _ (hbw.alloc (by omega) _)).mono ?_
          rintro e w2 ⟨rfl, hb2⟩
          rw [hP]
          obtain ⟨hc2, hf2⟩ := bcell hb2
          have HK2 : Hid ((L.set i o).length = n ∧ (L.set i o).take (i + 1) = (h.take (j + 1)).filter (fun o => !p o) ∧ (L.set i o).drop (j + 1) = h.drop (j + 1)) := by
            refine ⟨by simp [HK.out.1], ?_, ?_⟩
            · rw [List.take_add_one, List.take_add_one, HO.out.1, List.take_set_of_le (Nat.le_refl _), HK.out.2.1, List.getElem?_set_self (by rw [HK.out.1]; omega)]; simp [hP]
            · rw [List.drop_set_of_lt (by omega)]
              have := congrArg (List.drop 1) HK.out.2.2; simpa [List.drop_drop, Nat.add_comm] using this
          have HOW := Lib.hid (own_set3 (own_below (hownr.alloc (.cells #[.int .i64 o.tx, .int .i64 o.what, .int .i64 o.item] 50)) hb2 (Nat.le_refl _)) i o)
          have HBW : Below base w w2 := (hbw.alloc (by omega) _).trans (hb2.mono (by simp; omega))
          go_wp2
          go_roundw
          case rel => exact ⟨i + 1, j + 1, L.set i o, by omega, by omega, by go_num, by go_num, HOW.out, HK2, ((HBW.setCell hgb.1 _).setCell hgb.1 _).setCell hgb.1 _⟩
          case measure => simp [intOf]; omega
        · go_wp2_with fail
          refine (HF.out o HO.out.2 _ (hbw.alloc (by omega) _)).mono ?_
          rintro e w2 ⟨rfl, hb2⟩
          rw [hP]
          have HK2 : Hid (L.length = n ∧ L.take i = (h.take (j + 1)).filter (fun o => !p o) ∧ L.drop (j + 1) = h.drop (j + 1)) := by
            refine ⟨HK.out.1, ?_, ?_⟩
            · rw [List.take_add_one, HO.out.1]; simp [hP, HK.out.2.1]
            · have := congrArg (List.drop 1) HK.out.2.2; simpa [List.drop_drop, Nat.add_comm] using this
          go_wp2
          go_roundw
          case rel => exact ⟨i, j + 1, L, by omega, by omega, rfl, by go_num, own_below (hownr.alloc _) hb2 (Nat.le_refl _), HK2, (hbw.alloc (by omega) _).trans (hb2.mono (by simp; omega))⟩
          case measure => simp [intOf]; omega
      · have HK2 : Hid (cellsH (h.filter fun o => !p o) = (cellsH L).take (i * 3)) := by
          have h1 : L.take i = h.filter fun o => !p o := by
            have := HK.out.2.1
            rwa [List.take_of_length_le (l := h) (by rw [HL.out]; omega)] at this
          rw [← h1]
          exact Lib.hid (cellsH_take L i).symm
        
        go_wp2_with ((with_reducible show wpList _ _ _ _ _ _); refine wpList_clear (base := base) rfl (.tmp 38) _ rfl slt_op hownr (i := i) (by omega) rfl (fun _ => rfl) ?_; intro w3 hown3 hg3)
        go_ret
        exact ⟨i, rfl, by rw [HK2.out]; exact hown3, hbw.grown hg3 (by have := hbw.size; omega) (fun k hk => by cases hk; exact hgb.1)⟩
end Go.Proofs.YtcdinhmdeaplgaaGreatDoor


namespace Go.Proofs.YtcdinhmdeaplgaaGreatDoor
open Go.ChangeShapes Go.WideShapes Go.ChangeAt Go.RowKit
section
variable {H : Type} {enc : TypeId × Value → H} {P : Program}
theorem post_below {f : Func} {s : ChangeSpec} {apart fresh handsOn again : Bool} {W W' : World} {args : Array Value} {v : Value} {ds gs : List (DataW H)} {before pa pv : List MemPlace}
    (hW : DataW.Whole enc P f.params.toList s.vars apart W args.toList ds gs before) (hb : Below W.heap.size W W') (hps : before = pa ++ pv)
    (hres : ∀ (b : Nat) (sp : Nat → Bool) (hd : Bool), DataW.TrodAll enc P W' b sp hd f.resultTypes.toList (v.resultList f.resultTypes.size) (s.fn H (ds ++ gs)).results [])
    (hargs : ∀ sp : Nat → Bool, (∀ p ∈ before, sp p.block = true) → DataW.TrodAll enc P W' 0 sp true f.params.toList args.toList (s.fn H (ds ++ gs)).args pa)
    (hvars : ∀ sp : Nat → Bool, (∀ p ∈ before, sp p.block = true) → DataW.TrodVars enc P W' sp s.vars (s.fn H (ds ++ gs)).vars pv)
    (hok : ∀ (j : Nat) (t : TypeId) (r : Value), f.resultTypes[j]? = some t → (v.resultList f.resultTypes.size)[j]? = some r → Value.okWide P W' .any 0 t r) :
    s.post enc P f apart fresh handsOn again W args v W' := by
  have hlt : ∀ p ∈ before, p.block < W.heap.size := fun p hp => hW.lt p hp
  have hold : ∀ p ∈ before, (fun b => decide (b < W.heap.size)) p.block = true := fun p hp => by simpa using hlt p hp
  subst hps
  refine ⟨ds, gs, pa ++ pv, [], pa, pv, hW, hres _ _ _, hargs _ hold, hvars _ hold, World.keptBut_mono (fun p hp => ⟨hp, .inr (List.mem_append.1 hp)⟩) (hb.frame (· ∈ pa ++ pv)), fun _ => ⟨hok, ?_⟩⟩
  obtain ⟨_, _, _, _, _, hz, hn⟩ := hW
  refine ⟨_, _, ([] ++ pa) ++ pv, ⟨[] ++ pa, pv, trodAll_append (hargs _ (fun _ _ => rfl)) (hres _ _ _), hvars _ (fun _ _ => rfl), rfl, fun b off hp => ?_, fun ha => ?_⟩, fun p hp _ => ?_⟩
  · have hin : MemPlace.cell b off ∈ pa ++ pv := by simpa using hp
    rw [hb.frozen (hlt _ hin)]
    exact hz b off hin
  · simpa using hn ha
  · simpa using hp
end
end Go.Proofs.YtcdinhmdeaplgaaGreatDoor


namespace Go.Proofs.YtcdinhmdeaplgaaGreatDoor
open Go.ChangeShapes Go.WideShapes Go.ChangeAt Go.RowKit Go.Deep

theorem list_of {α : Type} {Q : Nat → α → Prop} (n : Nat) (h : ∀ i, i < n → ∃ o, Q i o) : ∃ l : List α, l.length = n ∧ ∀ i o, l[i]? = some o → Q i o := by
  induction n with
  | zero => exact ⟨[], rfl, by simp⟩
  | succ n ih =>
    obtain ⟨l, hl, hq⟩ := ih fun i hi => h i (by omega)
    obtain ⟨o, ho⟩ := h n (by omega)
    refine ⟨l ++ [o], by simp [hl], fun i x hx => ?_⟩
    rcases Nat.lt_or_ge i n with hi | hi
    · rw [List.getElem?_append_left (by omega)] at hx; exact hq i x hx
    · rw [List.getElem?_append_right (by omega), hl] at hx
      rcases Nat.eq_zero_or_pos (i - n) with h0 | h0
      · obtain rfl : i = n := by omega
        simp at hx; subst hx; exact ho
      · rw [List.getElem?_eq_none (by simp; omega)] at hx; cases hx

theorem spot_none {w : World} {a : Addr} {v : Value} (h : w.cell? a = some v) : a.spot = none := by
  unfold World.cell? at h
  split at h
  · split at h
    · cases h
    · rename_i hs; cases hx : a.spot <;> simp_all
  · cases h

theorem cellsH_get {h : List HOp} {w : World} {b off : Nat} (hc : ∀ i o, h[i]? = some o → w.cell? ⟨b, off + i * 3, none⟩ = some (.int .i64 o.tx) ∧ w.cell? ⟨b, off + i * 3 + 1, none⟩ = some (.int .i64 o.what) ∧ w.cell? ⟨b, off + i * 3 + 2, none⟩ = some (.int .i64 o.item)) :
    ∀ j u, (cellsH h)[j]? = some u → w.cell? ⟨b, off + j, none⟩ = some u := by
  intro j u hu
  have hj : j < h.length * 3 := by rw [← cellsH_length]; exact (List.getElem?_eq_some_iff.1 hu).1
  have ho : h[j / 3]? = some (h[j / 3]'(by omega)) := List.getElem?_eq_getElem (by omega)
  obtain ⟨h0, h1, h2⟩ := hc _ _ ho
  obtain ⟨k0, k1, k2⟩ := cellsH_at ho
  have hm : j % 3 = 0 ∨ j % 3 = 1 ∨ j % 3 = 2 := by omega
  rcases hm with hm | hm | hm
  · have e : j = j / 3 * 3 := by omega
    rw [e] at hu ⊢; rw [k0] at hu; rw [h0, ← hu]
  · have e : j = j / 3 * 3 + 1 := by omega
    rw [e] at hu ⊢; rw [k1] at hu; rw [← Nat.add_assoc, h1, ← hu]
  · have e : j = j / 3 * 3 + 2 := by omega
    rw [e] at hu ⊢; rw [k2] at hu; rw [← Nat.add_assoc, h2, ← hu]

theorem add_off (b off i j : Nat) : ((⟨b, off, none⟩ : Addr).add i).add j = ⟨b, off + i + j, none⟩ := by
  unfold Addr.add
  by_cases hi : i = 0 <;> by_cases hj : j = 0 <;> simp [hi, hj]

section
variable {H : Type} {enc : TypeId × Value → H} {P : Program} {W : World}
theorem open_opsc {t e ti : TypeId} {f0 f1 f2 : Field} (ht : P.underlying t = some (.slice e)) (he : P.underlying e = some (.struct #[f0, f1, f2])) (hi : P.underlying ti = some (.int .i64)) (h0 : f0.type = ti) (h1 : f1.type = ti) (h2 : f2.type = ti)
    (hone : oneCellFields P #[f0, f1, f2] = true) (hC : P.cellsOf e = 3) {base : Nat} {v : Value} {d : DataW H} {p : List MemPlace} (hv : Value.okWide P W .any base t v) (h : DataW.Trod enc P W 0 (fun _ => true) true t v d p)
    (hsz : ∀ elems spare, d = .slice elems spare → (elems.length + spare.length) * 24 ≤ reachBytes) :
    ∃ A n c l, v = .slice A n c ∧ Rd W W.heap.size 3 A n (cellsH l) ∧ n * 24 ≤ 140737488351232 ∧ n ≤ c := by
  obtain ⟨A, n, c, rfl⟩ := okWide_slice ht hv
  obtain ⟨fuel, hf⟩ := h
  rcases open_slice ht hf with ⟨hcs, _⟩ | ⟨a, len, cap, m, k, D, Pl, hcs, _, hlc, hcm, hm, hx, hel⟩
  · simp [Value.cells] at hcs
    obtain ⟨rfl, rfl, rfl⟩ := hcs
    exact ⟨none, 0, 0, [], rfl, Rd.nil, by omega, by omega⟩
  · simp [Value.cells] at hcs
    obtain ⟨rfl, rfl, rfl⟩ := hcs
    simp only [if_true] at hm
    subst hm
    have hb : n * 24 ≤ 140737488351232 := by
      simp only [Prod.mk.injEq] at hx
      have := hsz _ _ hx.1
      simp only [List.length_map, List.length_range, reachBytes] at this
      omega
    have hcell : ∀ i, i < n → ∃ o : HOp, W.cell? ((a.add (i * 3)).add 0) = some (.int .i64 o.tx) ∧ W.cell? ((a.add (i * 3)).add 1) = some (.int .i64 o.what) ∧ W.cell? ((a.add (i * 3)).add 2) = some (.int .i64 o.item) := by
      intro i hin
      obtain ⟨cs', hc, ht'⟩ := hel i (by omega)
      rw [hC] at hc
      obtain ⟨ys, n', _, _, hlen, hyl, hfs⟩ := DataW.trod_struct he ht'
      obtain ⟨_, hcl, hat⟩ := World.cells?_some hc
      have key : ∀ (j : Nat) (f : Field), (#[f0, f1, f2] : Array Field)[j]? = some f → f.type = ti → ∃ x : Int, cs'[j]? = some (Value.int .i64 x) := by
        intro j f hj hft
        obtain ⟨ho, hk⟩ := hone_of hone j f hj
        have hjl : j < 3 := by simpa using (Array.getElem?_eq_some_iff.1 hj).1
        have h1 := hfs j f hj
        rw [ho, hk, hft] at h1
        have hone' : (cs'.drop j).take 1 = [cs'[j]'(by omega)] := by
          rw [List.drop_eq_getElem_cons (by omega)]; rfl
        rw [hone', List.getElem?_eq_getElem (by rw [hyl]; simpa using hjl)] at h1
        obtain ⟨x, hcx, _⟩ := DataW.trod_int hi h1
        simp only [List.cons.injEq, and_true] at hcx
        exact ⟨x, by rw [List.getElem?_eq_getElem (by omega), hcx]⟩
      obtain ⟨x0, e0⟩ := key 0 f0 rfl h0
      obtain ⟨x1, e1⟩ := key 1 f1 rfl h1
      obtain ⟨x2, e2⟩ := key 2 f2 rfl h2
      exact ⟨⟨x0, x1, x2⟩, (hat 0 (by omega)).trans e0, (hat 1 (by omega)).trans e1, (hat 2 (by omega)).trans e2⟩
    obtain ⟨l, hll, hl⟩ := list_of n hcell
    refine ⟨some a, n, _, l, rfl, ⟨by rw [cellsH_length, hll], fun hn => ?_⟩, hb, by omega⟩
    obtain ⟨o, ho, _, _⟩ := hcell 0 hn
    obtain ⟨b, off, s⟩ := a
    have hs : s = none := by
      have := spot_none ho
      simpa [Addr.add] using this
    subst hs
    have hbl := World.block_lt_of_cell? W _ ho
    rw [add_off] at hbl
    refine ⟨b, off, rfl, hbl, cellsH_get fun i o hio => ?_⟩
    have := hl i o hio
    rw [add_off, add_off, add_off] at this
    exact this
theorem open_ops {t e ti : TypeId} {f0 f1 f2 : Field} (ht : P.underlying t = some (.slice e)) (he : P.underlying e = some (.struct #[f0, f1, f2])) (hi : P.underlying ti = some (.int .i64)) (h0 : f0.type = ti) (h1 : f1.type = ti) (h2 : f2.type = ti)
    (hone : oneCellFields P #[f0, f1, f2] = true) (hC : P.cellsOf e = 3) {base : Nat} {v : Value} {d : DataW H} {p : List MemPlace} (hv : Value.okWide P W .any base t v) (h : DataW.Trod enc P W 0 (fun _ => true) true t v d p)
    (hsz : ∀ elems spare, d = .slice elems spare → (elems.length + spare.length) * 24 ≤ reachBytes) :
    ∃ A n c l, v = .slice A n c ∧ Rd W W.heap.size 3 A n (cellsH l) ∧ n * 24 ≤ 140737488351232 := by
  obtain ⟨A, n, c, l, h1, h2, h3, _⟩ := open_opsc ht he hi h0 h1 h2 hone hC hv h hsz
  exact ⟨A, n, c, l, h1, h2, h3⟩
theorem open_isc {t e : TypeId} (ht : P.underlying t = some (.slice e)) (he : P.underlying e = some (.int .i64)) (hC : P.cellsOf e = 1) {base : Nat} {v : Value} {d : DataW H} {p : List MemPlace} (hv : Value.okWide P W .any base t v) (h : DataW.Trod enc P W 0 (fun _ => true) true t v d p)
    (hsz : ∀ elems spare, d = .slice elems spare → (elems.length + spare.length) * 8 ≤ reachBytes) :
    ∃ A n c l, v = .slice A n c ∧ Rd W W.heap.size 1 A n (cellsI l) ∧ n * 8 ≤ 140737488351232 ∧ n ≤ c := by
  obtain ⟨A, n, c, rfl⟩ := okWide_slice ht hv
  obtain ⟨fuel, hf⟩ := h
  rcases open_slice ht hf with ⟨hcs, _⟩ | ⟨a, len, cap, m, k, D, Pl, hcs, _, hlc, hcm, hm, hx, hel⟩
  · simp [Value.cells] at hcs
    obtain ⟨rfl, rfl, rfl⟩ := hcs
    exact ⟨none, 0, 0, [], rfl, Rd.nil, by omega, by omega⟩
  · simp [Value.cells] at hcs
    obtain ⟨rfl, rfl, rfl⟩ := hcs
    simp only [if_true] at hm
    subst hm
    have hb : n * 8 ≤ 140737488351232 := by
      simp only [Prod.mk.injEq] at hx
      have := hsz _ _ hx.1
      simp only [List.length_map, List.length_range, reachBytes] at this
      omega
    have hcell : ∀ i, i < n → ∃ x : Int, W.cell? ((a.add (i * 1)).add 0) = some (.int .i64 x) := by
      intro i hin
      obtain ⟨cs', hc, ht'⟩ := hel i (by omega)
      rw [hC] at hc
      obtain ⟨_, hcl, hat⟩ := World.cells?_some hc
      obtain ⟨x, hcx, _⟩ := DataW.trod_int he ht'
      exact ⟨x, (hat 0 (by omega)).trans (by rw [hcx]; rfl)⟩
    obtain ⟨l, hll, hl⟩ := list_of n hcell
    refine ⟨some a, n, _, l, rfl, ⟨by rw [cellsI, List.length_map, hll]; omega, fun hn => ?_⟩, hb, by omega⟩
    obtain ⟨x, hx0⟩ := hcell 0 hn
    obtain ⟨b, off, s⟩ := a
    have hs : s = none := by
      have := spot_none hx0
      simpa [Addr.add] using this
    subst hs
    have hbl := World.block_lt_of_cell? W _ hx0
    rw [add_off] at hbl
    refine ⟨b, off, rfl, hbl, fun j u hu => ?_⟩
    rw [cellsI, List.getElem?_map] at hu
    cases hlj : l[j]? with
    | none => rw [hlj] at hu; cases hu
    | some x =>
      rw [hlj] at hu
      have := hl j x hlj
      rw [add_off, Nat.mul_one, Nat.add_zero] at this
      rw [this]; exact hu
theorem open_is {t e : TypeId} (ht : P.underlying t = some (.slice e)) (he : P.underlying e = some (.int .i64)) (hC : P.cellsOf e = 1) {base : Nat} {v : Value} {d : DataW H} {p : List MemPlace} (hv : Value.okWide P W .any base t v) (h : DataW.Trod enc P W 0 (fun _ => true) true t v d p)
    (hsz : ∀ elems spare, d = .slice elems spare → (elems.length + spare.length) * 8 ≤ reachBytes) :
    ∃ A n c l, v = .slice A n c ∧ Rd W W.heap.size 1 A n (cellsI l) ∧ n * 8 ≤ 140737488351232 := by
  obtain ⟨A, n, c, l, h1, h2, h3, _⟩ := open_isc ht he hC hv h hsz
  exact ⟨A, n, c, l, h1, h2, h3⟩
end

/-- The row's last step where slices are among the arguments: below the heap's old size nothing has turned. -/
theorem post_slices {H : Type} {enc : TypeId × Value → H} {P : Program} {f : Func} {s : ChangeSpec} {apart fresh handsOn : Bool} {W W' : World} {args : Array Value} {v : Value} {ds gs : List (DataW H)} {before pa pv : List MemPlace}
    (hW : DataW.Whole enc P f.params.toList s.vars apart W args.toList ds gs before) (hb : Below W.heap.size W W') (hps : before = pa ++ pv)
    (hres : ∀ (b : Nat) (sp : Nat → Bool) (hd : Bool), DataW.TrodAll enc P W' b sp hd f.resultTypes.toList (v.resultList f.resultTypes.size) (s.fn H (ds ++ gs)).results [])
    (hargs : DataW.TrodAll enc P W' 0 (fun b => decide (b < W.heap.size)) true f.params.toList args.toList (s.fn H (ds ++ gs)).args pa)
    (hvars : DataW.TrodVars enc P W' (fun b => decide (b < W.heap.size)) s.vars (s.fn H (ds ++ gs)).vars pv) :
    s.post enc P f apart fresh handsOn false W args v W' := by
  subst hps
  exact ⟨ds, gs, pa ++ pv, [], pa, pv, hW, hres _ _ _, hargs, hvars, World.keptBut_mono (fun p hp => ⟨hp, .inr (List.mem_append.1 hp)⟩) (hb.frame (· ∈ pa ++ pv)), fun h => by cases h⟩
theorem laidOut : laidOutB Tryz.prog = true := by kernel_rfl
end Go.Proofs.YtcdinhmdeaplgaaGreatDoor


namespace Go.Proofs.YtcdinhmdeaplgaaGreatDoor
open Go.RowKit Go.Extern.Stop Go.Stop Go.Extern

/-- errors.As(nil, target). -/
theorem as_nil (t : Value) (w : World) :
    Calls Tryz.prog 37 #[.nilIface, t] w fun e w' => e = .returned (.bool false) ∧ w' = w := by
  go_enter Tryz.func37, Tryz.ntmps37
  go_wp2
  go_ret
  exact ⟨rfl, rfl⟩

/-! ### Closed facts on the model's entries for internal/reflectlite. -/
theorem valueOfP (t : Addr) (w : World) : (ReflectliteValue.unpack (.iface 67 (.pointer (some t)))).run Tryz.prog w
    = .ok (.agg #[.pointer (some ⟨4, 67, none⟩), .pointer (some ⟨w.heap.size, 0, none⟩), .int .u64 150]) (w.alloc (.cells #[.pointer (some t)] 67)) := by kernel_rfl
theorem typeP (a : Addr) (w : World) : (ReflectliteValue.methodAny (ReflectliteValue.valueError "reflectlite.Value.Type" 0) (fun t _ _ _ => ReflectliteType.toType t) #[.agg #[.pointer (some ⟨4, 67, none⟩), .pointer (some a), .int .u64 150]]).run Tryz.prog w
    = .ok (.iface 101 (.agg #[.pointer (some ⟨4, 67, none⟩)])) w := by kernel_rfl
theorem methodKind (h : Value) (w : World) : (Go.method 275 101 (.agg #[h]) "Kind").run Tryz.prog w = .ok (109, h) w := by kernel_rfl
theorem kindP (w : World) : ((ReflectliteType.abiMethod fun t => (fun a : Nat => Value.int IntKind.u8 (a : Int)) <$> Rtype.kind t) #[.pointer (some ⟨4, 67, none⟩)]).run Tryz.prog w = .ok (.int .u8 22) w := by kernel_rfl
theorem kindE (w : World) : ((ReflectliteType.abiMethod fun t => (fun a : Nat => Value.int IntKind.u8 (a : Int)) <$> Rtype.kind t) #[.pointer (some ⟨4, 51, none⟩)]).run Tryz.prog w = .ok (.int .u8 2) w := by kernel_rfl
theorem rlm (z : Sem Value) (f : TypeId → Addr → Nat → Nat → Sem Value) (v : Value) :
    ReflectliteValue.method z f #[v] = (do match ← ReflectliteValue.parts v with | none => z | some (t, a, fl) => f t a fl (fl % 32)) := rfl
theorem partsP (a : Addr) (w : World) : (ReflectliteValue.parts (.agg #[.pointer (some ⟨4, 67, none⟩), .pointer (some a), .int .u64 150])).run Tryz.prog w = .ok (some (67, a, 150)) w := by kernel_rfl
theorem isNilP (a p : Addr) (W : World) (ha : W.cell? a = some (.pointer (some p))) :
    (ReflectliteValue.method (ReflectliteValue.valueError "reflectlite.Value.IsNil" 0) ReflectliteValue.isNil #[.agg #[.pointer (some ⟨4, 67, none⟩), .pointer (some a), .int .u64 150]]).run Tryz.prog W = .ok (.bool false) W := by
  rw [rlm]
  simp only [Sem.run_bind, partsP, Result.andThen]
  simp [ReflectliteValue.isNil, loadVar, isAgg, underlying, Tryz.underlying67, ha, Result.andThen]
theorem methodElem (h : Value) (w : World) : (Go.method 275 101 (.agg #[h]) "Elem").run Tryz.prog w = .ok (120, .agg #[h]) w := by kernel_rfl
theorem methodImplements (h : Value) (w : World) : (Go.method 275 101 (.agg #[h]) "Implements").run Tryz.prog w = .ok (121, .agg #[h]) w := by kernel_rfl
theorem methodAssignableTo (h : Value) (w : World) : (Go.method 275 101 (.agg #[h]) "AssignableTo").run Tryz.prog w = .ok (118, .agg #[h]) w := by kernel_rfl
theorem elemP (w : World) : (ReflectliteType.method ReflectliteType.elem #[.agg #[.pointer (some ⟨4, 67, none⟩)]]).run Tryz.prog w = .ok (.iface 101 (.agg #[.pointer (some ⟨4, 51, none⟩)])) w := by kernel_rfl
theorem implementsE (w : World) : (ReflectliteType.relation "Implements" ReflectliteType.implements_ #[.agg #[.pointer (some ⟨4, 51, none⟩)], .iface 101 (.agg #[.pointer (some ⟨4, 26, none⟩)])]).run Tryz.prog w = .ok (.bool true) w := by kernel_rfl
theorem typeOfE (v : Value) (w : World) : (ReflectliteType.typeOf #[.iface 51 v]).run Tryz.prog w = .ok (.iface 101 (.agg #[.pointer (some ⟨4, 51, none⟩)])) w := by kernel_rfl
theorem assignableE (w : World) : (ReflectliteType.relation "AssignableTo" ReflectliteType.assignableTo #[.agg #[.pointer (some ⟨4, 51, none⟩)], .iface 101 (.agg #[.pointer (some ⟨4, 51, none⟩)])]).run Tryz.prog w = .ok (.bool true) w := by kernel_rfl
theorem valueOfE (x : Int) (w : World) : (ReflectliteValue.unpack (.iface 51 (.int .i64 x))).run Tryz.prog w
    = .ok (.agg #[.pointer (some ⟨4, 51, none⟩), .pointer (some ⟨w.heap.size, 0, none⟩), .int .u64 130]) (w.alloc (.cells #[.int .i64 x] 51)) := by kernel_rfl
theorem elemOfP (w : World) : (Rtype.elem? 67).run Tryz.prog w = .ok (some 51) w := by kernel_rfl
theorem mkE (p : Addr) (w : World) : (ReflectliteValue.mk 51 p ReflectliteValue.flagAddr).run Tryz.prog w = .ok (.agg #[.pointer (some ⟨4, 51, none⟩), .pointer (some p), .int .u64 386]) w := by kernel_rfl
theorem elemVP (a p : Addr) (W : World) (ha : W.cell? a = some (.pointer (some p))) :
    (ReflectliteValue.method (ReflectliteValue.valueError "reflectlite.Value.Elem" 0) ReflectliteValue.elem #[.agg #[.pointer (some ⟨4, 67, none⟩), .pointer (some a), .int .u64 150]]).run Tryz.prog W
      = .ok (.agg #[.pointer (some ⟨4, 51, none⟩), .pointer (some p), .int .u64 386]) W := by
  rw [rlm]
  simp only [Sem.run_bind, partsP, Result.andThen]
  simp [ReflectliteValue.elem, loadVar, isAgg, underlying, Tryz.underlying67, ha, Result.andThen, elemOfP, mkE]
theorem rls (v x : Value) : ReflectliteValue.set #[v, x] = (do
    let (some (dst, a, fl), some (src, b, _)) := (← ReflectliteValue.parts v, ← ReflectliteValue.parts x)
      | unsupported (.noEntry "extern/(internal/reflectlite.Value).Set.zeroValue")
    if fl / ReflectliteValue.flagAddr % 2 == 0 then unsupported (.noEntry "extern/(internal/reflectlite.Value).Set.unaddressable")
    let val ← loadVar src b
    if ← Rtype.directlyAssignable dst src then storeVar dst a val
    else if ← Rtype.implements dst src then
      if (← Rtype.kind src) == 20 then
        match val with
        | .nilIface => unsupported (.noEntry "extern/reflectlite: a nil value of one interface type handed on as a value of another")
        | _ => storeVar dst a val
      else storeVar dst a (.iface src val)
    else panicString ("reflectlite.Set: value of type " ++ (← Rtype.spelt src) ++ " is not assignable to type " ++ (← Rtype.spelt dst))
    pure (.tuple #[])) := rfl
theorem partsEa (a : Addr) (w : World) : (ReflectliteValue.parts (.agg #[.pointer (some ⟨4, 51, none⟩), .pointer (some a), .int .u64 386])).run Tryz.prog w = .ok (some (51, a, 386)) w := by kernel_rfl
theorem partsE (a : Addr) (w : World) : (ReflectliteValue.parts (.agg #[.pointer (some ⟨4, 51, none⟩), .pointer (some a), .int .u64 130])).run Tryz.prog w = .ok (some (51, a, 130)) w := by kernel_rfl
theorem directE (w : World) : (Rtype.directlyAssignable 51 51).run Tryz.prog w = .ok true w := by kernel_rfl
theorem sizeE (w : World) : (sizeOf 51).run Tryz.prog w = .ok 1 w := by kernel_rfl
theorem setE (ta b : Addr) (x : Int) (old : Value) (W : World) (hb : W.cell? b = some (.int .i64 x)) (ht : W.cell? ta = some old) (hf : W.frozen? ta = false) :
    (ReflectliteValue.set #[.agg #[.pointer (some ⟨4, 51, none⟩), .pointer (some ta), .int .u64 386], .agg #[.pointer (some ⟨4, 51, none⟩), .pointer (some b), .int .u64 130]]).run Tryz.prog W
      = .ok (.tuple #[]) (W.setCell ta (.int .i64 x)) := by
  rw [rls]
  simp only [Sem.run_bind, partsEa, partsE, Result.andThen]
  simp [ReflectliteValue.flagAddr, loadVar, isAgg, underlying, Tryz.underlying51, hb, Result.andThen, directE, storeVar, Value.cells, storeCells, Addr.add]
  rw [run_store Tryz.prog W ta _ _ (by rfl)]
  simp [ht, hf]

/-- The variable errors.errorType as its initialiser leaves it. -/
def Et (w : World) : Prop := w.cell? ⟨0, 0, none⟩ = some (.iface 101 (.agg #[.pointer (some ⟨4, 26, none⟩)]))
theorem Et.pos {w : World} (h : Et w) : 0 < w.heap.size := by
  rcases Nat.eq_zero_or_pos w.heap.size with h0 | h1
  · unfold Et at h; simp [World.cell?, h0] at h
  · exact h1
theorem Et.below {w w' : World} {B : Nat} (h : Et w) (hb : Below B w w') (hB : 0 < B) : Et w' := (hb.cell (p := ⟨0, 0, none⟩) hB).trans h
theorem Et.alloc {w : World} (h : Et w) (o : Obj) : Et (w.alloc o) := (World.cell?_alloc_lt w o ⟨0, 0, none⟩ h.pos).trans h

set_option maxHeartbeats 4000000 in
theorem as_hit (x : Int) (t : Addr) (old : Value) (w : World) (hg : Et w) (ht0 : w.cell? t = some old) (hf0 : w.frozen? t = false) :
    Calls Tryz.prog 37 #[.iface 51 (.int .i64 x), .iface 67 (.pointer (some t))] w fun ev w' => ev = .returned (.bool true) ∧ w' = ((((w.alloc (.cells #[.pointer (some t)] 67)).alloc (.cells #[.pointer (some ⟨4, 67, none⟩), .pointer (some ⟨w.heap.size, 0, none⟩), .int .u64 150] 83)).alloc (.cells #[.pointer (some ⟨4, 67, none⟩), .pointer (some ⟨w.heap.size, 0, none⟩), .int .u64 150] 83)).alloc (.cells #[.int .i64 x] 51)).setCell t (.int .i64 x) := by
  have h6 := @run_callFunc_extern Tryz.prog 49 _ (fun args => ReflectliteValue.unpack (args.getD 0 (.tuple #[]))) Tryz.func49 (by kernel_rfl) (by kernel_rfl) (by kernel_rfl) (by kernel_rfl)
  have h7 := @run_callFunc_extern Tryz.prog 50 _ (ReflectliteValue.methodAny (ReflectliteValue.valueError "reflectlite.Value.Type" 0) (fun t _ _ _ => ReflectliteType.toType t)) Tryz.func50 (by kernel_rfl) (by kernel_rfl) (by kernel_rfl) (by kernel_rfl)
  have h8 := @run_callFunc_extern Tryz.prog 51 _ (ReflectliteValue.method (ReflectliteValue.valueError "reflectlite.Value.IsNil" 0) ReflectliteValue.isNil) Tryz.func51 (by kernel_rfl) (by kernel_rfl) (by kernel_rfl) (by kernel_rfl)
  have h27 := @run_callFunc_extern Tryz.prog 109 _ (ReflectliteType.abiMethod fun t => do pure (.int .u8 (← Rtype.kind t))) Tryz.func109 (by kernel_rfl) (by kernel_rfl) (by kernel_rfl) (by kernel_rfl)
  have h37 := @run_callFunc_extern Tryz.prog 120 _ (ReflectliteType.method ReflectliteType.elem) Tryz.func120 (by kernel_rfl) (by kernel_rfl) (by kernel_rfl) (by kernel_rfl)
  have h38 := @run_callFunc_extern Tryz.prog 121 _ (ReflectliteType.relation "Implements" ReflectliteType.implements_) Tryz.func121 (by kernel_rfl) (by kernel_rfl) (by kernel_rfl) (by kernel_rfl)
  have h10 := @run_callFunc_extern Tryz.prog 62 _ ReflectliteType.typeOf Tryz.func62 (by kernel_rfl) (by kernel_rfl) (by kernel_rfl) (by kernel_rfl)
  have h35 := @run_callFunc_extern Tryz.prog 118 _ (ReflectliteType.relation "AssignableTo" ReflectliteType.assignableTo) Tryz.func118 (by kernel_rfl) (by kernel_rfl) (by kernel_rfl) (by kernel_rfl)
  have h11 := @run_callFunc_extern Tryz.prog 63 _ (ReflectliteValue.method (ReflectliteValue.valueError "reflectlite.Value.Elem" 0) ReflectliteValue.elem) Tryz.func63 (by kernel_rfl) (by kernel_rfl) (by kernel_rfl) (by kernel_rfl)
  have h12 := @run_callFunc_extern Tryz.prog 64 _ ReflectliteValue.set Tryz.func64 (by kernel_rfl) (by kernel_rfl) (by kernel_rfl) (by kernel_rfl)
  have tO := typeOfE
  have mA := methodAssignableTo
  have a25 := assignableE
  have v25 := valueOfE
  have f6 := valueOfP
  have f7 := typeP
  have mK := methodKind
  have mE := methodElem
  have mI := methodImplements
  have k27 := kindP
  have k25 := kindE
  have e27 := elemP
  have i25 := implementsE
  have n8 := isNilP ⟨w.heap.size, 0, none⟩ t ((w.alloc (.cells #[.pointer (some t)] 67)).alloc (.cells #[.pointer (some ⟨4, 67, none⟩), .pointer (some ⟨w.heap.size, 0, none⟩), .int .u64 150] 83)) (by simp)
  have hlt : 0 < w.heap.size := hg.pos
  have hg2 : ((w.alloc (.cells #[.pointer (some t)] 67)).alloc (.cells #[.pointer (some ⟨4, 67, none⟩), .pointer (some ⟨w.heap.size, 0, none⟩), .int .u64 150] 83)).cell? ⟨0, 0, none⟩ = some (.iface 101 (.agg #[.pointer (some ⟨4, 26, none⟩)])) := (hg.alloc _).alloc _
  clear hg
  have htl : t.block < w.heap.size := by
    rcases Nat.lt_or_ge t.block w.heap.size with h | h
    · exact h
    · simp [World.cell?, Array.getElem?_eq_none h] at ht0
  have el := elemVP ⟨w.heap.size, 0, none⟩ t (((w.alloc (.cells #[.pointer (some t)] 67)).alloc (.cells #[.pointer (some ⟨4, 67, none⟩), .pointer (some ⟨w.heap.size, 0, none⟩), .int .u64 150] 83)).alloc (.cells #[.pointer (some ⟨4, 67, none⟩), .pointer (some ⟨w.heap.size, 0, none⟩), .int .u64 150] 83)) (by rw [World.cell?_alloc_lt _ _ ⟨w.heap.size, 0, none⟩ (by simp; omega)]; simp)
  have st := setE t ⟨w.heap.size + 1 + 1 + 1, 0, none⟩ x old ((((w.alloc (.cells #[.pointer (some t)] 67)).alloc (.cells #[.pointer (some ⟨4, 67, none⟩), .pointer (some ⟨w.heap.size, 0, none⟩), .int .u64 150] 83)).alloc (.cells #[.pointer (some ⟨4, 67, none⟩), .pointer (some ⟨w.heap.size, 0, none⟩), .int .u64 150] 83)).alloc (.cells #[.int .i64 x] 51))
    (by rw [World.cell?_alloc_at _ _ _ _ (by simp)]; rfl)
    (by rw [World.cell?_alloc_lt _ _ t (by simp; omega), World.cell?_alloc_lt _ _ t (by simp; omega), World.cell?_alloc_lt _ _ t (by simp; omega), World.cell?_alloc_lt _ _ t htl]; exact ht0)
    (by rw [World.frozen?_alloc_old _ _ t (by simp; omega), World.frozen?_alloc_old _ _ t (by simp; omega), World.frozen?_alloc_old _ _ t (by simp; omega), World.frozen?_alloc_old _ _ t (Nat.ne_of_lt htl)]; exact hf0)
  go_enter Tryz.func37, Tryz.ntmps37
  go_wp2
  refine wp_loop_rounds 1 ?_
  rw [rounds_succ]
  go_wp2
  go_ret
  exact ⟨rfl, rfl⟩

theorem told_zero (w : World) : Calls Tryz.prog 22 #[.nilIface] w fun e w' => e = .returned (.int .i64 0) ∧ w = w' := by
  go_enter Tryz.func22, Tryz.ntmps22
  go_wp2
  go_ret
  exact ⟨rfl, rfl⟩
set_option maxHeartbeats 4000000 in
theorem told_some (x : Int) (w : World) (hg : Et w) : Calls Tryz.prog 22 #[.iface 51 (.int .i64 x)] w fun e w' => e = .returned (.int .i64 x) ∧ Below w.heap.size w w' := by
  have htA : (w.alloc (.cells #[.int .i64 0] 51)).cell? ⟨w.heap.size, 0, none⟩ = some (.int .i64 0) := by simp
  have hfA : (w.alloc (.cells #[.int .i64 0] 51)).frozen? ⟨w.heap.size, 0, none⟩ = false := by simp
  have hgA := hide (hg.alloc (.cells #[.int .i64 0] 51))
  clear hg
  go_enter Tryz.func22, Tryz.ntmps22
  go_wp2_with (go_at_call 37; refine (as_hit x _ (.int .i64 0) _ (unhide hgA) htA hfA).mono ?_; rintro e w' ⟨rfl, rfl⟩)
  go_ret
  exact ⟨rfl, ((((((Below.refl _ _).alloc (Nat.le_refl _) _).alloc (by simp) _).alloc (by simp; omega) _).alloc (by simp; omega) _).alloc (by simp; omega) _)⟩

/-- Is an error the one told? -/
theorem error_any (x y : Int) (w : World) (hg : Et w) : Calls Tryz.prog 6 #[errV x, .int .i64 y] w fun e w' => e = .returned (.bool (decide (x = y))) ∧ Below w.heap.size w w' := by
  by_cases h0 : x = 0
  · subst h0
    have e0 : errV 0 = .nilIface := rfl
    rw [e0]
    clear e0
    go_enter Tryz.func6, Tryz.ntmps6
    go_wp2_with (go_at_call 22; refine (told_zero _).mono ?_; rintro e w' ⟨rfl, rfl⟩)
    go_ret
    exact ⟨ret_bool (by by_cases h : (0 : Int) = y <;> simp [h]), Below.refl _ _⟩
  · have e0 : errV x = .iface 51 (.int .i64 x) := if_neg h0
    rw [e0]
    have HG := hide hg
    clear e0 h0 hg
    go_enter Tryz.func6, Tryz.ntmps6
    go_wp2_with (go_at_call 22; refine (told_some x _ (unhide HG)).mono ?_; rintro e w' ⟨rfl, hb1⟩)
    go_ret
    exact ⟨ret_bool (by by_cases h : x = y <;> simp [h]), hb1⟩
end Go.Proofs.YtcdinhmdeaplgaaGreatDoor


namespace Go.Proofs.YtcdinhmdeaplgaaGreatDoor
open Go.ChangeShapes Go.WideShapes Go.ChangeAt Go.RowKit Go.Deep
theorem error_same (x : Int) (w : World) (hg : Et w) : Calls Tryz.prog 6 #[errV x, .int .i64 x] w fun e w' => e = .returned (.bool true) ∧ Below w.heap.size w w' := by
  have := error_any x x w hg
  rwa [decide_eq_true rfl] at this
theorem open_op {H : Type} {enc : TypeId × Value → H} {P : Program} {W : World} {t ti : TypeId} {f0 f1 f2 : Field} (hs : P.underlying t = some (.struct #[f0, f1, f2])) (hi : P.underlying ti = some (.int .i64)) (h0 : f0.type = ti) (h1 : f1.type = ti) (h2 : f2.type = ti)
    (hone : oneCellFields P #[f0, f1, f2] = true) (hC : P.cellsOf t = 3) {base : Nat} {v : Value} {d : DataW H} {p : List MemPlace} (hv : Value.okWide P W .any base t v) (h : DataW.Trod enc P W 0 (fun _ => true) true t v d p) : ∃ o : HOp, v = o.val := by
  obtain ⟨v0, v1, v2, y0, y1, y2, n, rfl, _, _, g0, g1, g2⟩ := Joins.open_agg3 hs hone hC hv h
  rw [h0] at g0
  rw [h1] at g1
  rw [h2] at g2
  obtain ⟨x0, e0, _⟩ := DataW.trod_int hi g0
  obtain ⟨x1, e1, _⟩ := DataW.trod_int hi g1
  obtain ⟨x2, e2, _⟩ := DataW.trod_int hi g2
  simp only [List.cons.injEq, and_true] at e0 e1 e2
  exact ⟨⟨x0, x1, x2⟩, by rw [e0, e1, e2]; rfl⟩
theorem dOwn : ownKnob Tryz.prog.godebug = none := by kernel_rfl
theorem dEt : Tryz.prog.globalNamed "errors.errorType" = some 0 := by kernel_rfl
theorem dRt : (Tryz.prog.cutTypes.find? (·.1 == "internal/reflectlite.rtype")).map (·.2) = some 101 := by kernel_rfl
theorem dOneRow : ((List.range 175).filter fun t => Tryz.prog.rowNamed t [101, 114, 114, 111, 114]) = [26] := by kernel_rfl
theorem dSize : Tryz.prog.types.size = 175 := by kernel_rfl
abbrev dLaid : List (String × DataW Unit) := [("errors.errorType", Rows.laid_errors_errorType)]
theorem et_of_laid {W : World} (h : laidMetH Tryz.prog dLaid W) : Et W := by
  have h' : laidMet Tryz.prog [] W ∧ handlesMet Tryz.prog dLaid W := h
  obtain ⟨name, u, ty, e1, e2, e3, e4, e5⟩ := h'.2 _ (List.mem_singleton.2 rfl)
  have en : name = [101, 114, 114, 111, 114] := (Option.some.inj e1).symm
  subst en
  obtain rfl := Option.some.inj (dRt.symm.trans e2)
  have hm : ty ∈ (List.range 175).filter fun t => Tryz.prog.rowNamed t [101, 114, 114, 111, 114] := List.mem_filter.2 ⟨List.mem_range.2 (by rw [← dSize]; exact e3), e4⟩
  rw [dOneRow] at hm
  obtain rfl := List.mem_singleton.1 hm
  have hh : typeHandle Tryz.prog 26 = .pointer (some ⟨4, 26, none⟩) := by kernel_rfl
  rw [hh] at e5
  unfold Et
  simpa using World.var?_cell dEt e5 0
noncomputable def laidWorld (os : Os) : World :=
  let w0 := World.holding Tryz.prog os ⟨#[], #[], []⟩
  { w0 with heap := w0.heap.modify 0 fun
      | .cells _ t frozen => .cells #[.iface 101 (.agg #[.pointer (some ⟨4, 26, none⟩)])] t frozen
      | o => o }
theorem laidWorld_met (os : Os) (args : Array Value) : laidMetH Tryz.prog dLaid ((laidWorld os).forCall (fun _ _ => 0) ⟨#[], args, []⟩).memory :=
  laidMetH_of_parts (laidMet_nil _ _) (by kernel_rfl)
end Go.Proofs.YtcdinhmdeaplgaaGreatDoor
