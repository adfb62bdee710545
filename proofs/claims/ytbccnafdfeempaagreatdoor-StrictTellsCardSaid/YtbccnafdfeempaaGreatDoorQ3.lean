
/-
  PLAIN LAWS: a run of deals that are looked at when they end (valid.Play): its states, its steps. What was seen, (Tx, Item, From), and a look, (item, from, by), are kept as three numbers (HOp).
  CONTRACTS of history.Check, Right.
  CONTRACTS of history.DoneOf, Done: the ops of the deals that commit.
-/
import Derived.Test.YtbccnafdfeempaaGreatDoorQ0
import Derived.Deep.RegionHeld3
import Derived.Deep.LoopGhost
import Derived.Test.YtbccnafdfeempaaGreatDoorQ1
import Derived.RegionTactic
import Derived.BigRegion

namespace Go.Proofs.YtbccnafdfeempaaGreatDoor
open Go.RowKit

structure Dl where
  tx : Int
  began : Int
  ended : Int
  seen : List HOp
  wrote : List Int
  snap : List Int
  deriving DecidableEq, Repr, Inhabited
structure VSt where
  ds : List Dl
  dn : List Int
  last : List Int
  looks : List HOp
  deriving DecidableEq, Repr, Inhabited
def dget : List Dl → Int → Option Dl
  | [], _ => none
  | d :: t, x => if d.tx = x then some d else dget t x
def dput : List Dl → Dl → List Dl
  | [], d => [d]
  | e :: t, d => if e.tx = d.tx then d :: t else e :: dput t d
/-- A run's rules: what a read sees, who has looked then, whether a deal may commit. -/
structure VRules where
  see : VSt → Dl → Int → Int
  look : VSt → Dl → Int → List HOp
  may : VSt → Dl → Bool
def begD (s : VSt) (at_ : Nat) (tx : Int) : Dl := (dget s.ds tx).getD ⟨tx, at_, -1, [], [], s.last⟩
def openS (s : VSt) (at_ : Nat) (tx : Int) : VSt := { s with ds := dput s.ds (begD s at_ tx) }
def setsL (tx : Int) : List Int → List Int → List Int
  | [], l => l
  | i :: t, l => setsL tx t (l.set (i.toNat - 1) tx)
def vstep (R : VRules) (at_ : Nat) (o : HOp) (s0 : VSt) : VSt :=
  let s := openS s0 at_ o.tx
  let d := begD s0 at_ o.tx
  if o.what = 1 then
    if o.item ∈ d.wrote then { s with ds := dput s.ds { d with seen := d.seen ++ [⟨o.tx, o.item, o.tx⟩] } }
    else { s with ds := dput s.ds { d with seen := d.seen ++ [⟨o.tx, o.item, R.see s d o.item⟩] }, looks := R.look s d o.item }
  else if o.what = 2 then { s with ds := dput s.ds { d with wrote := d.wrote ++ [o.item] } }
  else if o.what = 3 then
    if R.may s d then { s with ds := dput s.ds { d with ended := at_ }, dn := s.dn ++ [o.tx], last := setsL o.tx d.wrote s.last }
    else s
  else s
def vrun (R : VRules) : Nat → List HOp → VSt → VSt
  | _, [], s => s
  | k, o :: t, s => vrun R (k + 1) t (vstep R k o s)
def vs00 : VSt := ⟨[], [], [0, 0, 0, 0, 0, 0], []⟩
def playV (R : VRules) (h : List HOp) : VSt := vrun R 0 h vs00
/-- Of a state: who is done, as they are. -/
def doneD (s : VSt) : List Dl := s.dn.map fun t => (dget s.ds t).getD ⟨t, 0, 0, [], [], []⟩
def readD (d : Dl) (item : Int) : Bool := d.seen.any fun s => decide (s.what = item) && !decide (s.item = d.tx)
def sinceD (began : Int) (done : List Dl) (is : Int → Bool) : Bool := done.any fun d => decide (d.ended > began) && d.wrote.any is
def atOnceD (a b : Dl) : Bool := (decide (b.ended < 0) || decide (a.began < b.ended)) && (decide (a.ended < 0) || decide (b.began < a.ended))

theorem dget_put : ∀ (l : List Dl) (d : Dl) (x : Int), dget (dput l d) x = if d.tx = x then some d else dget l x
  | [], d, x => by simp only [dput, dget]
  | e :: t, d, x => by
    by_cases h : e.tx = d.tx
    · rw [dput, if_pos h, dget, dget]
      by_cases h2 : d.tx = x
      · rw [if_pos h2, if_pos h2]
      · rw [if_neg h2, if_neg h2, if_neg (fun e' => h2 (h.symm.trans e'))]
    · rw [dput, if_neg h, dget, dget, dget_put t d x]
      by_cases h2 : e.tx = x
      · rw [if_pos h2, if_neg (fun e' => h (h2.trans e'.symm)), if_pos h2]
      · rw [if_neg h2, if_neg h2]
theorem dget_tx : ∀ {l : List Dl} {x : Int} {d : Dl}, dget l x = some d → d.tx = x ∧ d ∈ l
  | [], _, _, h => by cases h
  | e :: t, x, d, h => by
    rw [dget] at h
    split at h
    · rename_i he
      cases h
      exact ⟨he, List.mem_cons_self⟩
    · have := dget_tx h
      exact ⟨this.1, List.mem_cons_of_mem _ this.2⟩
theorem mem_dput : ∀ {l : List Dl} {d e : Dl}, e ∈ dput l d → e = d ∨ e ∈ l
  | [], d, e, h => by simp only [dput, List.mem_singleton] at h; exact .inl h
  | x :: t, d, e, h => by
    rw [dput] at h
    split at h
    · rcases List.mem_cons.1 h with h | h
      · exact .inl h
      · exact .inr (List.mem_cons_of_mem _ h)
    · rcases List.mem_cons.1 h with h | h
      · exact .inr (by rw [h]; exact List.mem_cons_self)
      · rcases mem_dput h with h | h
        · exact .inl h
        · exact .inr (List.mem_cons_of_mem _ h)
theorem mem_dput_self : ∀ (l : List Dl) (d : Dl), d ∈ dput l d
  | [], d => List.mem_singleton.2 rfl
  | x :: t, d => by
    rw [dput]
    split
    · exact List.mem_cons_self
    · exact List.mem_cons_of_mem _ (mem_dput_self t d)
/-- The numbers of the deals: those that were there, and behind them the new one. -/
theorem dput_txs : ∀ (l : List Dl) (d : Dl), (dput l d).map (·.tx) = if d.tx ∈ l.map (·.tx) then l.map (·.tx) else l.map (·.tx) ++ [d.tx]
  | [], d => rfl
  | x :: t, d => by
    rw [dput]
    by_cases h : x.tx = d.tx
    · rw [if_pos h, if_pos (by simp [h])]
      simp [h]
    · rw [if_neg h, List.map_cons, dput_txs t d]
      by_cases h2 : d.tx ∈ t.map (·.tx)
      · rw [if_pos h2, if_pos (by simp only [List.map_cons]; exact List.mem_cons_of_mem _ h2), List.map_cons]
      · rw [if_neg h2, if_neg (by simp only [List.map_cons, List.mem_cons, not_or]; exact ⟨fun e => h e.symm, h2⟩)]
        rfl
theorem dput_nodup {l : List Dl} (hn : (l.map (·.tx)).Nodup) (d : Dl) : ((dput l d).map (·.tx)).Nodup := by
  rw [dput_txs]
  split
  · exact hn
  · rename_i h
    exact List.nodup_append.2 ⟨hn, by simp, fun x hx y hy e => h (by rw [List.mem_singleton] at hy; rw [← hy, ← e]; exact hx)⟩
theorem dget_mem : ∀ {l : List Dl}, (l.map (·.tx)).Nodup → ∀ {d : Dl}, d ∈ l → dget l d.tx = some d
  | [], _, _, h => by cases h
  | x :: t, hn, d, h => by
    rw [List.map_cons, List.nodup_cons] at hn
    rw [dget]
    rcases List.mem_cons.1 h with rfl | h
    · rw [if_pos rfl]
    · rw [if_neg (fun e => hn.1 (by rw [e]; exact List.mem_map.2 ⟨d, h, rfl⟩)), dget_mem hn.2 h]
theorem dput_put : ∀ (l : List Dl) {d d' : Dl}, d.tx = d'.tx → dput (dput l d) d' = dput l d'
  | [], d, d', h => by simp [dput, h]
  | x :: t, d, d', h => by
    simp only [dput]
    by_cases h2 : x.tx = d.tx
    · rw [if_pos h2, if_pos (h2.trans h)]
      simp [dput, h]
    · rw [if_neg h2, if_neg (fun e => h2 (e.trans h.symm))]
      simp only [dput]
      rw [if_neg (fun e => h2 (e.trans h.symm)), dput_put t h]
theorem setsL_len (tx : Int) : ∀ (l m : List Int), (setsL tx l m).length = m.length
  | [], _ => rfl
  | i :: t, m => by rw [setsL, setsL_len tx t]; simp
end Go.Proofs.YtbccnafdfeempaaGreatDoor


namespace Go.Proofs.YtbccnafdfeempaaGreatDoor
open Go.RowKit

def errV (e : Int) : Value := if e = 0 then .nilIface else .iface 50 (.int .i64 e)
def checkGo (es : List Bool) (i : Nat) : List HOp → Nat × Int
  | [] => (0, 0)
  | o :: t => if rightB o = false then (i, 1) else if es.getD o.tx.toNat false = true then (i, 6) else checkGo (es.set o.tx.toNat (endsB o)) (i + 1) t
def checkF (h : List HOp) : Nat × Int := if 40 < h.length then (0, 4) else checkGo (List.replicate 7 false) 0 h

set_option maxHeartbeats 1000000 in
theorem check_any (A : Option Addr) (n cap : Nat) (h : List HOp) (w : World) (hr : Rd w w.heap.size 3 A n (cellsH h)) (hm : n ≤ 6000000000000) :
    Calls Tryz.prog 22 #[.slice A n cap] w fun e w' => e = .returned (.tuple #[.int .i64 (checkF h).1, errV (checkF h).2]) ∧ Below w.heap.size w w' := by
  have hl := hr.hlen
  have HL := Lib.hid hl
  by_cases hn : 40 < n
  · have hr : checkF h = (0, 4) := by rw [checkF, hl, if_pos hn]
    rw [hr]
    clear hl
    go_enter Tryz.func22, Tryz.ntmps22
    go_wp2
    go_ret2
    exact ⟨rfl, Below.refl _ _⟩
  · have hs : checkF h = checkGo (List.replicate 7 false) 0 h := by rw [checkF, hl, if_neg hn]
    rw [hs]
    clear hl hs
    go_enter Tryz.func22, Tryz.ntmps22
    go_wp2
    go_loopw [13] (fun i wr => ∃ (k : Nat) (es : List Bool), k ≤ n ∧ i = .int .i64 k ∧ es.length = 7 ∧ Blk wr w.heap.size 41 (es.map .bool) ∧ Hid (checkGo (List.replicate 7 false) 0 h = checkGo es k (h.drop k)) ∧ Below w.heap.size w wr)
      (fun i _ => n - (intOf i).toNat)
    case atStart => exact ⟨0, List.replicate 7 false, Nat.zero_le _, rfl, rfl, Blk.new w _ _, rfl, (Below.refl _ _).alloc (Nat.le_refl _) _⟩
    case round =>
      obtain ⟨k, es, hk, rfl, hes, hB, HE, hbw⟩ := hrel
      have hBlt := hB.lt
      by_cases hlt : k < n
      · obtain ⟨b, off, o, he, hb, ho, c0, c1, c2⟩ := (hr.below hbw).op (k := k) (by omega)
        cases he
        obtain ⟨tx, what, item⟩ := o
        have HO : Hid (h.drop k = ⟨tx, what, item⟩ :: h.drop (k + 1)) := drop_at ho
        clear ho
        have hb' : b < wr.heap.size := by omega
        cases hR : rightB ⟨tx, what, item⟩
        · have HF : Hid (checkGo (List.replicate 7 false) 0 h = (k, 1)) := Lib.hid (by rw [HE.out, HO.out]; simp [checkGo, hR])
          go_wp2_with (go_at_call 35; refine (right_any ⟨tx, what, item⟩ _).mono ?_; rintro e w1 ⟨rfl, hb1⟩; rw [hR]; obtain ⟨hc, hf⟩ := bcell hb1)
          go_ret2
          exact ⟨by rw [HF.out]; rfl, (hbw.alloc (Nat.le_of_lt hBlt) _).trans (hb1.mono (by simp; omega))⟩
        · have ht : 1 ≤ tx ∧ tx ≤ 6 := by simp [rightB, txB] at hR; omega
          obtain ⟨eb, heb⟩ : ∃ eb, es[tx.toNat]? = some eb := ⟨_, List.getElem?_eq_getElem (by omega)⟩
          have hct : wr.cell? ⟨w.heap.size, tx.toNat, none⟩ = some (.bool eb) := hB.cellS (by rw [List.getElem?_map, heb]; rfl)
          have hft : wr.frozen? ⟨w.heap.size, tx.toNat, none⟩ = false := hB.frozen _
          obtain ⟨ht1, ht2⟩ := ht
          cases eb
          · have HF : Hid (checkGo (List.replicate 7 false) 0 h = checkGo (es.set tx.toNat (endsB ⟨tx, what, item⟩)) (k + 1) (h.drop (k + 1))) := Lib.hid (by rw [HE.out, HO.out]; simp [checkGo, hR, heb])
            have HEB := Lib.hid heb; clear heb
            go_wp2_with (first
              | (go_at_call 35; refine (right_any ⟨tx, what, item⟩ _).mono ?_; rintro e w1 ⟨rfl, hb1⟩; rw [hR]; obtain ⟨hc, hf⟩ := bcell hb1))
            have hz : wr.heap.size < w1.heap.size := by have := hb1.size; simp at this; omega
            have hz' : w.heap.size < w1.heap.size := by omega
            have hb2 : Below w.heap.size w w1 := (hbw.alloc (Nat.le_of_lt hBlt) _).trans (hb1.mono (by simp; omega))
            have hB1 : Blk w1 w.heap.size 41 (es.map .bool) := (hB.alloc _).below hb1 (by simp; omega)
            have d0 : w1.cell? ⟨wr.heap.size, 0, none⟩ = some (.int .i64 tx) := by rw [hc _ _ (by simp)]; simp [World.cell?_alloc_new]
            have d1 : w1.cell? ⟨wr.heap.size, 1, none⟩ = some (.int .i64 what) := by rw [hc _ _ (by simp)]; simp [World.cell?_alloc_new]
            have d2 : w1.cell? ⟨wr.heap.size, 2, none⟩ = some (.int .i64 item) := by rw [hc _ _ (by simp)]; simp [World.cell?_alloc_new]
            have d3 : w1.cell? ⟨w.heap.size, tx.toNat, none⟩ = some (.bool false) := hB1.cellS (by rw [List.getElem?_map, HEB.out]; rfl)
            have d4 : w1.frozen? ⟨w.heap.size, tx.toNat, none⟩ = false := hB1.frozen _
            clear hc hf hb1
            go_region_with (first | (go_at_call 23; refine (ends_any ⟨tx, what, item⟩ _).mono ?_; rintro e w2 ⟨rfl, hb3⟩; have e0 := (hb3.cell (p := ⟨wr.heap.size, 0, none⟩) (by simp; omega)).trans d0; have e1 := (hb3.cell (p := ⟨wr.heap.size, 1, none⟩) (by simp; omega)).trans d1; have e2 := (hb3.cell (p := ⟨wr.heap.size, 2, none⟩) (by simp; omega)).trans d2; have e3 := (hb3.cell (p := ⟨w.heap.size, tx.toNat, none⟩) (by simp; omega)).trans d3; have e4 := (hb3.frozen (p := ⟨w.heap.size, tx.toNat, none⟩) (by simp; omega)).trans d4))
            all_goals
              go_wp2
              go_roundw
              case rel => exact ⟨k + 1, es.set tx.toNat (endsB ⟨tx, what, item⟩), by omega, by go_num, by simp [hes], by rw [List.map_set]; exact (hB1.drew.below hb3 hz').put _ _, HF, (hb2.drew.trans (hb3.mono (Nat.le_of_lt hz'))).setCell (Nat.le_refl _) _⟩
              case measure => simp [intOf]; omega
          · have HF : Hid (checkGo (List.replicate 7 false) 0 h = (k, 6)) := Lib.hid (by rw [HE.out, HO.out]; simp [checkGo, hR, heb])
            clear heb
            go_wp2_with (first
              | (go_at_call 35; refine (right_any ⟨tx, what, item⟩ _).mono ?_; rintro e w1 ⟨rfl, hb1⟩; rw [hR]; obtain ⟨hc, hf⟩ := bcell hb1))
            go_ret2
            exact ⟨by rw [HF.out]; rfl, (hbw.alloc (Nat.le_of_lt hBlt) _).trans (hb1.mono (by simp; omega))⟩
      · have HF : Hid (checkGo (List.replicate 7 false) 0 h = (0, 0)) := Lib.hid (by rw [HE.out, drop_end (by rw [HL.out]; omega)]; rfl)
        go_wp2
        go_ret2
        exact ⟨by rw [HF.out]; rfl, hbw⟩

theorem right_h (A : Option Addr) (n cap : Nat) (h : List HOp) (w : World) (hr : Rd w w.heap.size 3 A n (cellsH h)) (hm : n ≤ 6000000000000) :
    Calls Tryz.prog 12 #[.slice A n cap] w fun e w' => e = .returned (errV (checkF h).2) ∧ Below w.heap.size w w' := by
  have C := check_any A n cap h w hr hm
  generalize errV (checkF h).2 = ev at *
  generalize (checkF h).1 = iv at *
  go_enter Tryz.func12, Tryz.ntmps12
  go_wp2_with (go_at_call 22; refine (C).mono ?_; rintro e w1 ⟨rfl, hb1⟩)
  go_ret
  exact ⟨rfl, hb1⟩
end Go.Proofs.YtbccnafdfeempaaGreatDoor


namespace Go.Proofs.YtbccnafdfeempaaGreatDoor
open Go.RowKit

def flagsGo (es : List Bool) : List HOp → List Bool
  | [] => es
  | o :: t => flagsGo (es.set o.tx.toNat (es.getD o.tx.toNat false || decide (o.what = 3))) t
def flagsF (h : List HOp) : List Bool := flagsGo (List.replicate 7 false) h
def doneL (h : List HOp) : List HOp := h.filter fun o => (flagsF h).getD o.tx.toNat false

theorem flagsGo_length (es : List Bool) (h : List HOp) : (flagsGo es h).length = es.length := by
  induction h generalizing es with
  | nil => rfl
  | cons o t ih => simp [flagsGo, ih]
theorem flagsF_length (h : List HOp) : (flagsF h).length = 7 := by simp [flagsF, flagsGo_length]

theorem checkGo_ok {es : List Bool} {i : Nat} {h : List HOp} (hc : checkGo es i h = (0, 0)) : ∀ o ∈ h, rightB o = true := by
  induction h generalizing es i with
  | nil => simp
  | cons o t ih =>
    unfold checkGo at hc
    split at hc
    · simp at hc
    · split at hc
      · simp at hc
      · rename_i h1 _
        intro x hx
        rcases List.mem_cons.1 hx with rfl | hx
        · simpa using h1
        · exact ih hc x hx
/-- A history that is right. -/
def okH (h : List HOp) : Prop := (checkF h).2 = 0
theorem checkGo_zero {es : List Bool} {i : Nat} {h : List HOp} (hc : (checkGo es i h).2 = 0) : checkGo es i h = (0, 0) := by
  induction h generalizing es i with
  | nil => rfl
  | cons o t ih =>
    unfold checkGo at hc ⊢
    split
    · rename_i h1; simp [h1] at hc
    · rename_i h1
      rw [if_neg h1] at hc
      split
      · rename_i h2; rw [if_pos h2] at hc; simp at hc
      · rename_i h2
        rw [if_neg h2] at hc
        exact ih hc
theorem okH_len {h : List HOp} (hk : okH h) : h.length ≤ 40 := by
  unfold okH checkF at hk
  split at hk
  · simp at hk
  · omega
theorem okH_go {h : List HOp} (hk : okH h) : checkGo (List.replicate 7 false) 0 h = (0, 0) := by
  have := okH_len hk
  unfold okH checkF at hk
  rw [if_neg (by omega)] at hk
  exact checkGo_zero hk
theorem okH_right {h : List HOp} (hk : okH h) : ∀ o ∈ h, rightB o = true := checkGo_ok (okH_go hk)
theorem okH_tx {h : List HOp} (hk : okH h) : ∀ o ∈ h, 1 ≤ o.tx ∧ o.tx ≤ 6 := fun o ho => by
  have := okH_right hk o ho
  simp [rightB, txB] at this
  omega
end Go.Proofs.YtbccnafdfeempaaGreatDoor
