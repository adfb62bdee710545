
/-
  CONTRACT of the reference's laneref2.Strict, where the run comes to an end (runL).
  PLAIN: a runner comes to an end with every right history (strict_ends).
-/
import Derived.Test.YtbccnafdfeempaaGreatDoorQ38
import Derived.Test.YtbccnafdfeempaaGreatDoorStrS
import Derived.Test.YtbccnafdfeempaaGreatDoorQ37

namespace Go.Proofs.YtbccnafdfeempaaGreatDoor
open Go.RowKit

theorem qjc_any (way : Int) (lo : Nat) : ∀ n, FreeQC way lo n ∧ AbortQC way lo n ∧ DoQC way lo n := by
  intro n
  induction n using Nat.strongRecOn with
  | ind n ih =>
    cases n with
    | zero => exact ⟨fun tx s s' L tag w _ h => by simp [runJ] at h, fun tx _ _ s s' L tag w _ h => by simp [runJ] at h, fun o _ s s' L tag w _ h => by simp [runJ] at h⟩
    | succ n =>
      have h : ∀ m, m ≤ n → FreeQC way lo m ∧ AbortQC way lo m ∧ DoQC way lo m := fun m hm => ih m (Nat.lt_succ_of_le hm)
      refine ⟨qfree_any fun m hm => (h m hm).2.2, qabort_any (h n (Nat.le_refl _)).1, fun o hr => ?_⟩
      cases he : endB o
      · exact qdo_ask (fun m hm => (h m hm).2.1) o hr he
      · exact qdo_end (h n (Nat.le_refl _)).1 o he
def nilB : Int → Value := fun _ => .slice none 0 0
def noOp : Int → HOp := fun _ => ⟨0, 0, 0⟩
theorem qheap_new (way : Int) (w : World) : ∃ tag0, (∀ k, k < w.heap.size → 10 ≤ (tag0 k).2) ∧ QHeap way w.heap.size (w.alloc (.cells (qcells way (.slice none 0 0) (.slice none 0 0) (wbS rst0) noOp nilB rst0.ab (.slice none 0 0) (.slice none 0 0)).toArray 47)) rst0 ⟨w.heap.size, .slice none 0 0, .slice none 0 0, .slice none 0 0, .slice none 0 0, nilB, noOp⟩ tag0 := by
  refine ⟨fun k => if k < w.heap.size then (0, 20) else (0, 0), fun k hk => by dsimp only; rw [if_pos hk]; decide, ?_⟩
  refine ⟨Blk.new w _ _, by dsimp only; rw [if_neg (by omega)], Nat.le_refl _, ⟨⟨World.ownsRow_nil _ _ _ _, fun k hk => (by cases hk)⟩, ⟨World.ownsRow_nil _ _ _ _, fun k hk => (by cases hk)⟩, fun k hk => (by cases hk), linv0⟩, fun d o h => (by simp [rst0] at h), fun k => ⟨⟨QRow.nil _ _ _, fun j hj => (by cases hj)⟩, fun o ho => (by simp [rst0] at ho)⟩, ⟨World.ownsRow_nil _ _ _ _, fun k hk => (by cases hk)⟩, ⟨World.ownsRow_nil _ _ _ _, fun k hk => (by cases hk)⟩⟩

set_option maxRecDepth 100000 in
set_option maxHeartbeats 4000000 in
theorem qstrict_any (A : Option Addr) (n cap : Nat) (h : List HOp) (way : Int) (w : World) (hr : Rd w w.heap.size 3 A n (cellsH h)) (hok : okH h) (N : Nat) (s' : RSt) (hrun : runL way N h rst0 = some s') (ht : s'.told.length ≤ 1000000) (hv : s'.vic.length ≤ 1000000) :
    Calls Tryz.prog 5 #[.slice A n cap, .int .i64 way] w fun e w' => ∃ v1 v2, e = .returned (.tuple #[v1, v2]) ∧ w'.ownsRow w.heap.size 43 3 v1 s'.told.length (cellsH s'.told) ∧ w'.ownsRow w.heap.size 3 1 v2 s'.vic.length (cellsI s'.vic) ∧ Below w.heap.size w w' := by
  have hm : n ≤ 40 := by rw [← hr.hlen]; exact okH_len hok
  have HL := Lib.hid hr.hlen
  have HRUN := Lib.hid hrun
  have HLE := Lib.hid (And.intro ht hv)
  have HOK := Lib.hid (fun o ho => okH_right hok o ho)
  obtain ⟨tag0, htag, hH0⟩ := qheap_new way w
  have hbs : Below w.heap.size w (w.alloc (.cells (qcells way (.slice none 0 0) (.slice none 0 0) (wbS rst0) noOp nilB rst0.ab (.slice none 0 0) (.slice none 0 0)).toArray 47)) := (Below.refl _ _).alloc (Nat.le_refl _) _
  obtain ⟨w3, hw3⟩ : ∃ w3, w.alloc (.cells (qcells way (.slice none 0 0) (.slice none 0 0) (wbS rst0) noOp nilB rst0.ab (.slice none 0 0) (.slice none 0 0)).toArray 47) = w3 := ⟨_, rfl⟩
  rw [hw3] at hH0 hbs
  have HW3 : Hid (w.alloc (.cells #[.int .i64 way, .slice none 0 0, .slice none 0 0, .bool false, .bool false, .bool false, .bool false, .bool false, .bool false, .bool false, .int .i64 0, .int .i64 0, .int .i64 0, .int .i64 0, .int .i64 0, .int .i64 0, .int .i64 0, .int .i64 0, .int .i64 0, .int .i64 0, .int .i64 0, .int .i64 0, .int .i64 0, .int .i64 0, .int .i64 0, .int .i64 0, .int .i64 0, .int .i64 0, .int .i64 0, .int .i64 0, .int .i64 0, .slice none 0 0, .slice none 0 0, .slice none 0 0, .slice none 0 0, .slice none 0 0, .slice none 0 0, .slice none 0 0, .bool false, .bool false, .bool false, .bool false, .bool false, .bool false, .bool false, .slice none 0 0, .slice none 0 0] 47) = w3) := Lib.hid hw3
  clear hok hrun ht hv hw3
  go_enter Tryz.func5, Tryz.ntmps5
  go_upto_region 2 with fail
  rw [HW3.out]
  clear HW3
  go_wp2
  go_loopw [7] (fun s7 wr => ∃ (k : Nat) (s1 : RSt) (xH xW xT xV : Value) (xB : Int → Value) (xo : Int → HOp) (tag1 : Nat → Int × Nat), k ≤ n ∧ s7 = .int .i64 k ∧ Hid (runL way N (h.drop k) s1 = some s') ∧ QHeap way w.heap.size wr s1 ⟨w.heap.size, xH, xW, xT, xV, xB, xo⟩ tag1 ∧ StepS w3 wr tag0 tag1 ∧ Hid (∀ x, (s1.bh x).length ≤ k)) (fun s7 _ => n - (intOf s7).toNat)
  case atStart => exact ⟨0, rst0, _, _, _, _, _, _, tag0, Nat.zero_le _, rfl, HRUN, hH0, StepS.refl _ _, Lib.hid (fun x => Nat.zero_le _)⟩
  case round =>
    clear hH0 HRUN
    obtain ⟨k, s1, xH, xW, xT, xV, xB, xo, tag1, hk, rfl, HR, hH, hS, HBL⟩ := hrel
    have hbw : Below w.heap.size w wr := hbs.trans (hS.toBelow hbs.size htag)
    by_cases hlt : k < n
    · obtain ⟨b, off, o, he, hb, ho, c0, c1, c2⟩ := (hr.below hbw).op (k := k) hlt
      cases he
      have HDR : Hid (h.drop k = o :: h.drop (k + 1)) := drop_at ho
      have HR1 := HR.out
      rw [HDR.out] at HR1
      unfold runL at HR1
      have hro := HOK.out o (List.mem_of_getElem? ho)
      obtain ⟨t1, t6, _, _⟩ := right_parts hro
      have HRO := Lib.hid hro
      obtain ⟨tx, what, item⟩ := o
      simp only at HR1 c0 c1 c2 t1 t6
      obtain ⟨d, rfl⟩ : ∃ d : Nat, tx = d := ⟨tx.toNat, by omega⟩
      have hd6 : d ≤ 6 := by omega
      have d0 : (0 : Int) ≤ (d : Int) := by omega
      have d7 : (d : Int) < 7 := by omega
      have qA := hH.cA hd6
      have qW := hH.cW hd6
      have qB := hH.cB hd6
      simp only at qA qW qB
      have hgr : w.heap.size < wr.heap.size := hH.run.lt
      clear t1 t6 hro ho HR
      cases hab : s1.ab d with
      | true =>
        rw [hab] at HR1 qA
        rw [if_pos rfl] at HR1
        have HR2 := Lib.hid HR1
        have HBL2 : Hid (∀ x, (s1.bh x).length ≤ k + 1) := Lib.hid (fun x => Nat.le_succ_of_le (HBL.out x))
        clear HR1
        go_wp2
        go_roundw
        case rel => exact ⟨k + 1, s1, xH, xW, xT, xV, xB, xo, tag1, by omega, by go_num, HR2, hH, hS, HBL2⟩
        case measure => simp [intOf]; omega
      | false =>
        rw [hab] at HR1 qA
        rw [if_neg (by simp)] at HR1
        cases hwt : s1.wt d with
        | some ow =>
          rw [hwt] at HR1 qW
          rw [if_pos (by rfl)] at HR1
          simp only [Option.isSome_some] at qW
          have HR2 := Lib.hid HR1
          obtain ⟨AB, cB, hV⟩ := (hH.bh d).1.1.shape'
          simp only at hV
          obtain ⟨nb, hnb⟩ : ∃ nb, (s1.bh d).length = nb := ⟨_, rfl⟩
          have HNB := Lib.hid hnb
          have hnb40 : nb ≤ 40 := by have := HBL.out d; omega
          rw [hnb] at hV
          rw [hV] at qB
          have HV := Lib.hid hV
          have hHA : QHeap way w.heap.size (wr.drew.alloc (.cells (cellsH [⟨(d : Int), what, item⟩]).toArray 43)) s1 ⟨w.heap.size, xH, xW, xT, xV, xB, xo⟩ tag1 := hH.below ((Below.refl _ _).drew.alloc (Nat.le_refl _) _)
          have hQ := (hHA.bh d).1.1
          simp only [hV] at hQ
          have k31a := (World.cell?_alloc_lt wr (.cells #[.int .i64 (d : Int), .int .i64 what, .int .i64 item] 43) ⟨w.heap.size, 31 + d, none⟩ hgr).trans qB
          have HA := Lib.hid hHA
          have hlo2 := hH.loLe
          have HBL2 : Hid (∀ x, (updR s1.bh (d : Int) (s1.bh d ++ [(⟨(d : Int), what, item⟩ : HOp)]) x).length ≤ k + 1) := Lib.hid (fun x => by
            have h5 := HBL.out
            unfold updR
            split
            · rw [List.length_append, List.length_singleton]
              have := h5 (d : Int)
              omega
            · exact Nat.le_succ_of_le (h5 x))
          have HLR : Hid (∀ o ∈ s1.bh d ++ [(⟨(d : Int), what, item⟩ : HOp)], rightB o = true) := Lib.hid (fun o ho => by
            rcases List.mem_append.1 ho with h | h
            · exact (hH.bh d).2 o h
            · rw [List.mem_singleton.1 h]; exact HRO.out)
          have hSr := hS.trans (StepS.below (tag := tag1) ((Below.refl wr.heap.size wr).drew.alloc (Nat.le_refl _) (.cells (cellsH [⟨(d : Int), what, item⟩]).toArray 43)))
          clear HR1 hnb hV hHA hH hS
          go_wp2_with fail
          go_region_law (first | ((refine step_qapp rfl (.tmp 42) (.tmp 47) _ rfl w.heap.size slt_op (v := .slice AB nb cB) (l := s1.bh d) rfl hQ rfl (rd_new' _ _ (cellsH [⟨(d : Int), what, item⟩]) (by simp) rfl) (by rw [HNB.out]; omega) (by simp; omega) ?_; intro v6 w6 hq6 hg6 hat6; obtain ⟨A6, c6, hv6⟩ := hq6.shape'; obtain ⟨n6, hn6⟩ : ∃ n6, (s1.bh d ++ [(⟨(d : Int), what, item⟩ : HOp)]).length = n6 := ⟨_, rfl⟩; rw [hn6] at hv6; subst hv6; clear hn6; rw [← HV.out] at hg6 hat6; have hBk6 := HA.out.run.but (grown_but (tag := tag1) (P := fun m => m = ((d : Int), 9)) hg6 fun k hk => (HA.out.bh d).1.2 k hk) (by rw [HA.out.mark]; intro h; injection h with _ h; cases h); have p0 := (hBk6.cellS (q_b hd6)).trans (congrArg some HV.out); have p1 := hBk6.frozen (31 + d))))
          all_goals
            obtain ⟨hT, hS4⟩ := HA.out.behind hd6 (tag' := tagTo tag1 (wr.drew.alloc (.cells (cellsH [⟨(d : Int), what, item⟩]).toArray 43)).heap.size ((d : Int), 9)) (grown_but (tag := tag1) (P := fun m => m = ((d : Int), 9)) hg6 fun k hk => (HA.out.bh d).1.2 k hk) (fun k hk => tagTo_old hk) hq6 (fun j hj => by
              rcases hat6 with e | ⟨q, e, hq⟩
              · have h2 := e.symm.trans hj
                rw [tagTo_old ((HA.out.bh d).1.1.lt h2).2]
                exact (HA.out.bh d).1.2 j h2
              · obtain rfl : q = j := Option.some.inj (e.symm.trans hj)
                exact tagTo_new hq) HLR.out (fun j hj e2 => by
              rcases hat6 with e | ⟨q, e, hq⟩
              · have h2 := (HA.out.bh d).1.2 j (e.symm.trans hj)
                have h3 := HA.out.mark
                simp only at e2 h3
                rw [e2, h3] at h2
                injection h2 with _ h2
                cases h2
              · obtain rfl : q = j := Option.some.inj (e.symm.trans hj)
                have h5 : wr.heap.size < (wr.drew.alloc (.cells (cellsH [⟨(d : Int), what, item⟩]).toArray 43)).heap.size := by simp
                have h6 : q = w.heap.size := e2
                have h7 := Nat.lt_of_lt_of_le h5 hq
                rw [h6] at h7
                exact absurd hgr (by omega))
            have hS5 := hSr.trans hS4
            clear hSr hS4 hQ HA
            go_wp2
            go_roundw
            case rel => exact ⟨k + 1, _, _, _, _, _, _, _, _, by omega, by go_num, HR2, hT, hS5, HBL2⟩
            case measure => simp [intOf]; omega
        | none =>
          rw [hwt] at HR1 qW
          rw [if_neg (by simp)] at HR1
          simp only [Option.isSome_none] at qW
          cases hq : runJ way N (.doo ⟨d, what, item⟩) s1 with
          | none => rw [hq] at HR1; cases HR1
          | some s2 =>
          rw [hq] at HR1
          simp only at HR1
          have HR2 := Lib.hid HR1
          have hlen2 := runL_told _ _ _ HR1
          have hbh2 := runJ_bh _ _ _ _ hq
          have HBL2 : Hid (∀ x, (s2.bh x).length ≤ k + 1) := Lib.hid (fun x => Nat.le_succ_of_le (Nat.le_trans (hbh2 x) (HBL.out x)))
          have CD := hide ((qjc_any way w.heap.size N).2.2 ⟨d, what, item⟩ HRO.out s1 s2 _ tag1 wr hH hq (by have := HLE.out; omega) (by have := HLE.out; omega))
          unfold HOp.val at CD
          simp only at CD
          clear HR1 hq hlen2 hbh2
          go_wp2_with fail
          refine (unhide CD).mono ?_
          rintro e w9 ⟨⟨ve, rfl⟩, uH, uW, uT, uV, uB, uo, tag9, hH9, hS9⟩
          have hS10 := hS.trans hS9
          clear CD hS9
          go_wp2
          go_roundw
          case rel => exact ⟨k + 1, s2, uH, uW, uT, uV, uB, uo, tag9, by omega, by go_num, HR2, hH9, hS10, HBL2⟩
          case measure => simp [intOf]; omega
    · have HR1 := HR.out
      rw [drop_end (by rw [HL.out]; omega)] at HR1
      unfold runL at HR1
      injection HR1 with HR1
      subst HR1
      have q5 := hH.cT
      have q6 := hH.cV
      simp only at q5 q6
      have hT := hH.told.1
      have hV := hH.vic.1
      obtain ⟨A5, c5, hA5⟩ := own_slice hT
      obtain ⟨A6, c6, hA6⟩ := own_slice hV
      simp only at hA5 hA6
      subst hA5 hA6
      have HTV := Lib.hid (And.intro hT hV)
      clear hT hV HR
      go_wp2_with fail
      go_quiet (fail)
      go_wp2
      go_ret2
      exact ⟨_, _, rfl, HTV.out.1, HTV.out.2, below_drewN hbw _⟩
end Go.Proofs.YtbccnafdfeempaaGreatDoor


namespace Go.Proofs.YtbccnafdfeempaaGreatDoor
open Go.RowKit

/-- What a job leaves. -/
structure Fin (s s' : RSt) (c : Nat) : Prop where
  inv : WInv s'
  mu : mu s' ≤ mu s + c
theorem phi_of {s s' : RSt} {c : Nat} (hm : mu s' ≤ mu s + c) (ht : s.told.length + c ≤ s'.told.length) : phi s' ≤ phi s := by unfold mu at hm; omega
theorem phi_told {s s' : RSt} (hm : mu s' ≤ mu s) (ht : s.told.length ≤ s'.told.length) : phi s' ≤ phi s := by unfold mu at hm; omega
def DrainE (way : Int) (n : Nat) : Prop := ∀ s tx, WInv s → phi s ≤ n → ∃ s', EndsJ way (.drain tx) s s' ∧ WInv s' ∧ mu s' ≤ mu s ∧ ∀ t, Pend s t → Pend s' t
def GoE (way : Int) (n : Nat) : Prop := ∀ (l : List HOp) s, WInv s → phi s ≤ n → (l.map (·.tx)).Nodup → (∀ x ∈ l, Pend s x.tx) → ∃ s', EndsJ way (.go l) s s' ∧ WInv s' ∧ mu s' ≤ mu s + l.length ∧ ∀ t, Pend s t → t ∉ l.map (·.tx) → Pend s' t
def FreeE (way : Int) (n : Nat) : Prop := ∀ s tx, WInvX s tx → txB tx = true → phi s ≤ n → ∃ s', EndsJ way (.free tx) s s' ∧ WInv s' ∧ mu s' ≤ mu s ∧ (inT s.T tx = true → tx ∈ sixI → mu s' + 1 ≤ mu s) ∧ ∀ t, Pend s t → Pend s' t
def AvoidE (way : Int) (n : Nat) : Prop := ∀ s tx, WInv s → phi s ≤ n → ∃ s', EndsJ way (.avoid tx) s s' ∧ WInv s' ∧ mu s' ≤ mu s ∧ ∀ t, Pend s t → Pend s' t
theorem go_ends {way : Int} {n : Nat} (hD : DrainE way n) : GoE way n := by
  intro l
  induction l with
  | nil => intro s hI _ _ _; exact ⟨s, EndsJ.nil way s, hI, by simp, fun t h _ => h⟩
  | cons x t ih =>
    intro s hI hp hn hP
    obtain ⟨hn1, hn2⟩ := List.nodup_cons.1 (show (x.tx :: t.map (·.tx)).Nodup from hn)
    cases hw : s.wt x.tx with
    | none =>
      obtain ⟨s', h1, h2, h3, h4⟩ := ih s hI hp hn2 fun y hy => hP y (List.mem_cons_of_mem _ hy)
      refine ⟨s', h1.skip hw, h2, by simp only [List.length_cons]; omega, fun u hu hne => h4 u hu fun hm => hne (List.mem_cons_of_mem _ hm)⟩
    | some o =>
      have hPx := hP x (List.mem_cons_self ..)
      have hW : s.T.W.any (ofTx x.tx) = false := by
        rcases hPx with ⟨h, _⟩ | ⟨_, h⟩
        · rw [hw] at h; cases h
        · exact h
      have hI1 : WInv { s with wt := updR s.wt x.tx none, told := s.told ++ [o] } := ⟨hI.inv, fun u p hu => by
        unfold updR at hu
        dsimp only at hu
        split at hu
        · cases hu
        · exact hI.wt u p hu, fun y hy => by
        have hne : y.tx ≠ x.tx := fun e => by
          have := List.any_eq_false.1 hW y hy
          simp [ofTx, e] at this
        show (updR s.wt x.tx none y.tx).isSome = true
        rw [updR_ne hne]; exact hI.tab y hy, hI.bh⟩
      have hPk : ∀ u, u ≠ x.tx → Pend s u → Pend { s with wt := updR s.wt x.tx none, told := s.told ++ [o] } u := fun u hu h => by
        unfold Pend at h ⊢
        dsimp only
        rw [updR_ne hu]; exact h
      obtain ⟨s1, a1, a2, a3, a4⟩ := hD { s with wt := updR s.wt x.tx none, told := s.told ++ [o] } x.tx hI1 (by unfold phi at hp ⊢; exact hp)
      have ht1 := a1.told
      have hm0 : mu { s with wt := updR s.wt x.tx none, told := s.told ++ [o] } = mu s + 1 := by
        unfold mu phi
        simp only [List.length_append, List.length_singleton]; omega
      simp only [List.length_append, List.length_singleton] at ht1
      obtain ⟨s', h1, h2, h3, h4⟩ := ih s1 a2 (by unfold mu at a3 hm0; omega) hn2 fun y hy => a4 _ (hPk _ (fun e => hn1 (List.mem_map.2 ⟨y, hy, e⟩)) (hP y (List.mem_cons_of_mem _ hy)))
      refine ⟨s', EndsJ.cons hw a1 h1, h2, by simp only [List.length_cons]; omega, fun u hu hne => ?_⟩
      simp only [List.map_cons, List.mem_cons, not_or] at hne
      exact h4 u (a4 u (hPk u hne.1 hu)) hne.2
theorem free_ends {way : Int} {n : Nat} (hG : GoE way n) : FreeE way n := by
  intro s tx hI ht hp
  obtain ⟨o1, o2, o3⟩ := freeS_out hI.inv tx
  obtain ⟨p1, p2⟩ := tabN_free s.T tx
  have hI1 : WInv { s with T := freeT s.T tx } := ⟨free_inv hI.inv tx, hI.wt, fun y hy => hI.tab y (o3 y hy).1 (o3 y hy).2, hI.bh⟩
  have hout : ∀ x ∈ (freeS s.T tx).out, (s.wt x.tx).isSome = true := fun x hx => hI.tab x (o2 x hx).1 (o2 x hx).2.1
  have hphi : phi { s with T := freeT s.T tx } + (freeS s.T tx).out.length ≤ phi s := by unfold phi; dsimp only; omega
  obtain ⟨s', h1, h2, h3, h4⟩ := hG (freeS s.T tx).out { s with T := freeT s.T tx } hI1 (by omega) o1 fun x hx => .inr ⟨hout x hx, (o2 x hx).2.2⟩
  have hmu : mu { s with T := freeT s.T tx } + (freeS s.T tx).out.length ≤ mu s := by unfold mu; dsimp only; omega
  refine ⟨s', EndsJ.free ht h1, h2, by omega, fun hin h6 => ?_, fun u hu => h4 u ?_ ?_⟩
  · have := p2 h6 hin
    have : mu { s with T := freeT s.T tx } + (freeS s.T tx).out.length + 1 ≤ mu s := by unfold mu phi; dsimp only; omega
    omega
  · rcases hu with ⟨a, b⟩ | ⟨a, b⟩
    · exact .inl ⟨a, b⟩
    · refine .inr ⟨a, ?_⟩
      rw [List.any_eq_false] at b ⊢
      exact fun y hy => b y (o3 y hy).1
  · intro hm
    obtain ⟨x, hx, rfl⟩ := List.mem_map.1 hm
    rcases hu with ⟨a, _⟩ | ⟨_, b⟩
    · have := hout x hx
      rw [a] at this; cases this
    · have := List.any_eq_false.1 b x (o2 x hx).1
      simp [ofTx] at this
theorem abort_ends {way : Int} {n : Nat} (hF : FreeE way n) {s : RSt} {tx : Int} (hI : WInv s) (h6 : tx ∈ sixI) (hin : inT s.T tx = true) (hp : phi s ≤ n) : ∃ s', EndsJ way (.abort tx) s s' ∧ WInv s' ∧ mu s' ≤ mu s ∧ phi s' + 1 ≤ phi s ∧ ∀ t, Pend s t → Pend s' t := by
  have hX : WInvX (s.aborts tx) tx := ⟨hI.inv, fun u p hu => by
      simp only [RSt.aborts, updR] at hu
      split at hu
      · cases hu
      · exact hI.wt u p hu, fun y hy hne => by
      show (updR s.wt tx none y.tx).isSome = true
      rw [updR_ne hne]; exact hI.tab y hy, fun u p hu => by
      simp only [RSt.aborts, updR] at hu
      split at hu
      · cases hu
      · exact hI.bh u p hu⟩
  have hb := bN_upd (bh := s.bh) h6 []
  have hph : phi (s.aborts tx) ≤ phi s := by unfold phi RSt.aborts; dsimp only; simp only [List.length_nil] at hb; omega
  have hmu : mu (s.aborts tx) ≤ mu s + 1 := by
    unfold mu
    have : (s.aborts tx).told.length = s.told.length + 1 := by simp [RSt.aborts]
    omega
  have htx : txB tx = true := by have := mem_six.1 h6; unfold txB; simp; omega
  obtain ⟨s', h1, h2, _, h4, h5⟩ := hF (s.aborts tx) tx hX htx (by omega)
  have h7 := h4 hin h6
  have ht := h1.told
  have ht2 : (s.aborts tx).told.length = s.told.length + 1 := by simp [RSt.aborts]
  refine ⟨s', h1.abort, h2, by omega, by unfold mu at *; omega, fun t hP => h5 t ?_⟩
  by_cases e : t = tx
  · subst e
    exact .inl ⟨by simp [RSt.aborts, updR], by simp [RSt.aborts, updR]⟩
  · unfold Pend at hP ⊢
    simp only [RSt.aborts]
    rw [updR_ne e, updR_ne e]; exact hP
theorem avoid_ends {way : Int} {n : Nat} (hF : FreeE way n) (ih : ∀ m, m < n → AvoidE way m) : AvoidE way n := by
  intro s tx hI hp
  cases hn : nextA way s.T tx with
  | none => exact ⟨s, EndsJ.avoid0 hn, hI, Nat.le_refl _, fun _ h => h⟩
  | some d =>
    obtain ⟨i1, i2⟩ := nextA_in hI.inv hn
    obtain ⟨s1, a1, a2, a3, a4, a5⟩ := abort_ends hF hI i2 i1 hp
    by_cases ha : againA way = true
    · obtain ⟨s', b1, b2, b3, b4⟩ := ih (n - 1) (by omega) s1 tx a2 (by omega)
      exact ⟨s', EndsJ.avoid1 hn a1 (by rw [if_pos ha]; exact b1), b2, by omega, fun t h => b4 t (a5 t h)⟩
    · exact ⟨s1, EndsJ.avoid1 hn a1 (by rw [if_neg ha]), a2, a3, a5⟩
theorem do_ends {way : Int} {n : Nat} (hF : FreeE way n) (hA : AvoidE way (n + 2)) {s : RSt} {o : HOp} (hI : WInv s) (hr : rightB o = true) (hw : s.wt o.tx = none) (hp : phi s ≤ n) : ∃ s', EndsJ way (.doo o) s s' ∧ WInv s' ∧ mu s' ≤ mu s + 2 ∧ ∀ t, t ≠ o.tx → Pend s t → Pend s' t := by
  cases he : endB o with
  | true =>
    have hI1 : WInvX (s.tells o) o.tx := (show WInv (s.tells o) from ⟨hI.inv, hI.wt, hI.tab, hI.bh⟩).x _
    obtain ⟨s', h1, h2, h3, _, h5⟩ := hF (s.tells o) o.tx hI1 (right_txB hr) (by unfold phi RSt.tells at *; exact hp)
    have hm : mu (s.tells o) = mu s + 1 := by unfold mu phi RSt.tells; simp only [List.length_append, List.length_singleton]; omega
    exact ⟨s', h1.doEnd he, h2, by omega, fun t _ h => h5 t h⟩
  | false =>
    have hW : s.T.W.any (ofTx (lockOf o).tx) = false := by
      rw [List.any_eq_false]
      intro y hy e
      have h1 := hI.tab y hy
      have h2 : y.tx = o.tx := of_decide_eq_true e
      rw [h2, hw] at h1; cases h1
    have hlr := lock_right hr he
    have hz : (askF s.T (lockOf o)).2.1 = 0 := by
      unfold askF
      rw [if_neg (by rw [hlr]; simp), if_neg (by rw [hW]; simp)]
      split
      · rfl
      · split <;> rfl
    have hinv := ask_inv hI.inv (lockOf o)
    obtain ⟨t1, t2⟩ := tabN_ask s.T (lockOf o)
    have hWsub : ∀ y ∈ (askF s.T (lockOf o)).2.2.W, y ∈ s.T.W ∨ ((askF s.T (lockOf o)).1 = false ∧ y.tx = o.tx) := by
      unfold askF
      rw [if_neg (by rw [hlr]; simp), if_neg (by rw [hW]; simp)]
      split
      · exact fun y hy => .inl hy
      · split
        · exact fun y hy => .inl hy
        · intro y hy
          rcases List.mem_append.1 hy with hy | hy
          · exact .inl hy
          · exact .inr ⟨rfl, by rw [List.mem_singleton.1 hy]; rfl⟩
    obtain ⟨is, er, T', hq⟩ : ∃ a b c, askF s.T (lockOf o) = (a, b, c) := ⟨_, _, _, rfl⟩
    rw [hq] at hz hinv t1 t2 hWsub
    simp only at hz hinv t1 t2 hWsub
    subst hz
    cases is with
    | true =>
      refine ⟨_, EndsJ.doHas he hq, ⟨hinv, hI.wt, fun y hy => ?_, hI.bh⟩, ?_, fun t hne h => ?_⟩
      · rcases hWsub y hy with h | ⟨h, _⟩
        · exact hI.tab y h
        · cases h
      · have := t2 rfl
        unfold mu phi RSt.tells; simp only [List.length_append, List.length_singleton]; omega
      · rcases h with h | ⟨h, h2⟩
        · exact .inl h
        · refine .inr ⟨h, ?_⟩
          rw [List.any_eq_false] at h2 ⊢
          intro y hy
          rcases hWsub y hy with h3 | ⟨h3, _⟩
          · exact h2 y h3
          · cases h3
    | false =>
      have hI1 : WInv { s with T := T', wt := updR s.wt o.tx (some o) } := ⟨hinv, fun u p hu => by
          unfold updR at hu
          dsimp only at hu
          split at hu
          · rename_i e
            injection hu with hu
            subst hu
            exact ⟨e.symm, hr, he⟩
          · exact hI.wt u p hu, fun y hy => by
          show (updR s.wt o.tx (some o) y.tx).isSome = true
          by_cases e : y.tx = o.tx
          · rw [e, updR_same]; rfl
          · rw [updR_ne e]
            rcases hWsub y hy with h | ⟨_, h⟩
            · exact hI.tab y h
            · exact absurd h e, hI.bh⟩
      have hph : phi { s with T := T', wt := updR s.wt o.tx (some o) } ≤ phi s + 2 := by unfold phi; dsimp only; omega
      obtain ⟨s', h1, h2, h3, h4⟩ := hA { s with T := T', wt := updR s.wt o.tx (some o) } o.tx hI1 (by omega)
      have hm : mu { s with T := T', wt := updR s.wt o.tx (some o) } ≤ mu s + 2 := by unfold mu; dsimp only; omega
      refine ⟨s', EndsJ.doWaits he hq h1, h2, by omega, fun t hne h => h4 t ?_⟩
      unfold Pend at h ⊢
      dsimp only
      rw [updR_ne hne]
      rcases h with h | ⟨h, h5⟩
      · exact .inl h
      · refine .inr ⟨h, ?_⟩
        rw [List.any_eq_false] at h5 ⊢
        intro y hy
        rcases hWsub y hy with h3 | ⟨_, h3⟩
        · exact h5 y h3
        · simp [ofTx, h3]; exact fun e => hne e.symm
theorem drain_ends {way : Int} {n : Nat} (hF : ∀ m, m < n → FreeE way m) (hA : ∀ m, m < n → AvoidE way m) (ih : ∀ m, m < n → DrainE way m) : DrainE way n := by
  intro s tx hI hp
  cases hb : s.bh tx with
  | nil => exact ⟨s, EndsJ.drain0 (.inl hb), hI, Nat.le_refl _, fun _ h => h⟩
  | cons o t =>
    cases hw : s.wt tx with
    | some p => exact ⟨s, EndsJ.drain0 (.inr (by rw [hw]; rfl)), hI, Nat.le_refl _, fun _ h => h⟩
    | none =>
      obtain ⟨e1, e2⟩ := hI.bh tx o (by rw [hb]; exact List.mem_cons_self ..)
      have h6 : tx ∈ sixI := by rw [← e1]; exact right_six e2
      have hbn := bN_upd (bh := s.bh) h6 t
      rw [hb, List.length_cons] at hbn
      have hI1 : WInv { s with bh := updR s.bh tx t } := ⟨hI.inv, hI.wt, hI.tab, fun u p hu => by
        unfold updR at hu
        dsimp only at hu
        split at hu
        · rename_i e; rw [e]; exact hI.bh tx p (by rw [hb]; exact List.mem_cons_of_mem _ hu)
        · exact hI.bh u p hu⟩
      have hph : phi { s with bh := updR s.bh tx t } + 4 = phi s := by unfold phi; dsimp only; omega
      obtain ⟨s1, a1, a2, a3, a4⟩ := do_ends (n := n - 4) (hF _ (by omega)) (hA _ (by omega)) hI1 e2 (by rw [e1]; exact hw) (by omega)
      have ht1 := a1.told
      dsimp only at ht1
      have hmu : mu { s with bh := updR s.bh tx t } + 4 = mu s := by unfold mu; dsimp only; omega
      obtain ⟨s', b1, b2, b3, b4⟩ := ih (n - 2) (by omega) s1 tx a2 (by unfold mu at a3 hmu; dsimp only at a3 hmu; omega)
      refine ⟨s', EndsJ.drain1 hb hw a1 b1, b2, by omega, fun u hu => b4 u ?_⟩
      by_cases e : u = tx
      · subst e
        rcases hu with ⟨_, h⟩ | ⟨h, _⟩
        · rw [hb] at h; cases h
        · rw [hw] at h; cases h
      · refine a4 u (by rw [e1]; exact e) ?_
        unfold Pend at hu ⊢
        dsimp only
        rw [updR_ne e]; exact hu
theorem all_ends (way : Int) : ∀ n, DrainE way n ∧ FreeE way n ∧ AvoidE way n := by
  intro n
  induction n using Nat.strongRecOn with
  | ind n ih =>
    have hD := drain_ends (fun m hm => (ih m hm).2.1) (fun m hm => (ih m hm).2.2) (fun m hm => (ih m hm).1)
    have hF := free_ends (go_ends hD)
    exact ⟨hD, hF, avoid_ends hF fun m hm => (ih m hm).2.2⟩
/-- Whatever right ops deals ask for, a runner comes to an end. -/
theorem run_ends (way : Int) : ∀ (l : List HOp) (s : RSt), WInv s → (∀ o ∈ l, rightB o = true) → ∃ N s', (∀ k, N ≤ k → runL way k l s = some s') ∧ WInv s' ∧ mu s' ≤ mu s + 4 * l.length
  | [], s, hI, _ => ⟨0, s, fun k _ => rfl, hI, by simp⟩
  | o :: t, s, hI, hr => by
    have hro := hr o (List.mem_cons_self ..)
    have hrt : ∀ x ∈ t, rightB x = true := fun x hx => hr x (List.mem_cons_of_mem _ hx)
    by_cases ha : s.ab o.tx = true
    · obtain ⟨N, s', h1, h2, h3⟩ := run_ends way t s hI hrt
      exact ⟨N, s', fun k hk => by unfold runL; rw [if_pos ha]; exact h1 k hk, h2, by simp only [List.length_cons]; omega⟩
    · by_cases hw : (s.wt o.tx).isSome = true
      · have hI1 : WInv { s with bh := updR s.bh o.tx (s.bh o.tx ++ [o]) } := ⟨hI.inv, hI.wt, hI.tab, fun u p hu => by
          unfold updR at hu
          dsimp only at hu
          split at hu
          · rename_i e
            rw [e]
            rcases List.mem_append.1 hu with hu | hu
            · exact hI.bh _ p hu
            · rw [List.mem_singleton.1 hu]; exact ⟨rfl, hro⟩
          · exact hI.bh u p hu⟩
        have hbn := bN_upd (bh := s.bh) (right_six hro) (s.bh o.tx ++ [o])
        rw [List.length_append, List.length_singleton] at hbn
        obtain ⟨N, s', h1, h2, h3⟩ := run_ends way t { s with bh := updR s.bh o.tx (s.bh o.tx ++ [o]) } hI1 hrt
        refine ⟨N, s', fun k hk => by unfold runL; rw [if_neg ha, if_pos hw]; exact h1 k hk, h2, ?_⟩
        have : mu { s with bh := updR s.bh o.tx (s.bh o.tx ++ [o]) } ≤ mu s + 4 := by unfold mu phi; dsimp only; omega
        simp only [List.length_cons]; omega
      · have hw0 : s.wt o.tx = none := by cases h : s.wt o.tx with
          | none => rfl
          | some p => rw [h] at hw; exact absurd rfl hw
        obtain ⟨s1, ⟨M, a1⟩, a2, a3, _⟩ := do_ends (n := phi s) (all_ends way _).2.1 (all_ends way _).2.2 hI hro hw0 (Nat.le_refl _)
        obtain ⟨N, s', h1, h2, h3⟩ := run_ends way t s1 a2 hrt
        refine ⟨N + M, s', fun k hk => ?_, h2, by simp only [List.length_cons]; omega⟩
        unfold runL
        rw [if_neg ha, if_neg hw, a1 k (by omega)]
        exact h1 k (by omega)
theorem winv0 : WInv rst0 := ⟨linv0, fun _ _ h => by simp [rst0] at h, fun _ h => by simp [rst0] at h, fun _ _ h => by simp [rst0] at h⟩
/-- Each history that is right is run to its end; not much is told. -/
theorem strict_ends (way : Int) {h : List HOp} (hk : okH h) : ∃ N s', (∀ k, N ≤ k → runL way k h rst0 = some s') ∧ s'.told.length ≤ 160 ∧ LInv s'.T := by
  obtain ⟨N, s', h1, h2, h3⟩ := run_ends way h rst0 winv0 (fun o ho => okH_right hk o ho)
  have := okH_len hk
  have h0 : mu rst0 = 0 := by decide
  exact ⟨N, s', h1, by unfold mu at h3 h0; omega, h2.inv⟩
end Go.Proofs.YtbccnafdfeempaaGreatDoor
