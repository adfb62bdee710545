
/-
  PLAIN LAWS: a run of deals that are looked at when they end (valid.Play): its states, its steps. What was seen, (Tx, Item, From), and a look, (item, from, by), are kept as three numbers (HOp).
-/
import Derived.Test.YtjbgjgmdgjnbfaaDoorBase

namespace Go.Proofs.YtjbgjgmdgjnbfaaDoor
open Go.RowKit

structure Dl where
  tx : Int
  began : Int
  ended : Int
  seen : List HOp
  wrote : List Int
  snap : List Int
  deriving DecidableEq, Repr, Inhabited
structure VSt where
  ds : List Dl
  dn : List Int
  last : List Int
  looks : List HOp
  deriving DecidableEq, Repr, Inhabited
def dget : List Dl → Int → Option Dl
  | [], _ => none
  | d :: t, x => if d.tx = x then some d else dget t x
def dput : List Dl → Dl → List Dl
  | [], d => [d]
  | e :: t, d => if e.tx = d.tx then d :: t else e :: dput t d
/-- A run's rules: what a read sees, who has looked then, whether a deal may commit. -/
structure VRules where
  see : VSt → Dl → Int → Int
  look : VSt → Dl → Int → List HOp
  may : VSt → Dl → Bool
def begD (s : VSt) (at_ : Nat) (tx : Int) : Dl := (dget s.ds tx).getD ⟨tx, at_, -1, [], [], s.last⟩
def openS (s : VSt) (at_ : Nat) (tx : Int) : VSt := { s with ds := dput s.ds (begD s at_ tx) }
def setsL (tx : Int) : List Int → List Int → List Int
  | [], l => l
  | i :: t, l => setsL tx t (l.set (i.toNat - 1) tx)
def vstep (R : VRules) (at_ : Nat) (o : HOp) (s0 : VSt) : VSt :=
  let s := openS s0 at_ o.tx
  let d := begD s0 at_ o.tx
  if o.what = 1 then
    if o.item ∈ d.wrote then { s with ds := dput s.ds { d with seen := d.seen ++ [⟨o.tx, o.item, o.tx⟩] } }
    else { s with ds := dput s.ds { d with seen := d.seen ++ [⟨o.tx, o.item, R.see s d o.item⟩] }, looks := R.look s d o.item }
  else if o.what = 2 then { s with ds := dput s.ds { d with wrote := d.wrote ++ [o.item] } }
  else if o.what = 3 then
    if R.may s d then { s with ds := dput s.ds { d with ended := at_ }, dn := s.dn ++ [o.tx], last := setsL o.tx d.wrote s.last }
    else s
  else s
def vrun (R : VRules) : Nat → List HOp → VSt → VSt
  | _, [], s => s
  | k, o :: t, s => vrun R (k + 1) t (vstep R k o s)
def vs00 : VSt := ⟨[], [], [0, 0, 0, 0, 0, 0], []⟩
def playV (R : VRules) (h : List HOp) : VSt := vrun R 0 h vs00
/-- Of a state: who is done, as they are. -/
def doneD (s : VSt) : List Dl := s.dn.map fun t => (dget s.ds t).getD ⟨t, 0, 0, [], [], []⟩
def readD (d : Dl) (item : Int) : Bool := d.seen.any fun s => decide (s.what = item) && !decide (s.item = d.tx)
def sinceD (began : Int) (done : List Dl) (is : Int → Bool) : Bool := done.any fun d => decide (d.ended > began) && d.wrote.any is
def atOnceD (a b : Dl) : Bool := (decide (b.ended < 0) || decide (a.began < b.ended)) && (decide (a.ended < 0) || decide (b.began < a.ended))

theorem dget_put : ∀ (l : List Dl) (d : Dl) (x : Int), dget (dput l d) x = if d.tx = x then some d else dget l x
  | [], d, x => by simp only [dput, dget]
  | e :: t, d, x => by
    by_cases h : e.tx = d.tx
    · rw [dput, if_pos h, dget, dget]
      by_cases h2 : d.tx = x
      · rw [if_pos h2, if_pos h2]
      · rw [if_neg h2, if_neg h2, if_neg (fun e' => h2 (h.symm.trans e'))]
    · rw [dput, if_neg h, dget, dget, dget_put t d x]
      by_cases h2 : e.tx = x
      · rw [if_pos h2, if_neg (fun e' => h (h2.trans e'.symm)), if_pos h2]
      · rw [if_neg h2, if_neg h2]
theorem dget_tx : ∀ {l : List Dl} {x : Int} {d : Dl}, dget l x = some d → d.tx = x ∧ d ∈ l
  | [], _, _, h => by cases h
  | e :: t, x, d, h => by
    rw [dget] at h
    split at h
    · rename_i he
      cases h
      exact ⟨he, List.mem_cons_self⟩
    · have := dget_tx h
      exact ⟨this.1, List.mem_cons_of_mem _ this.2⟩
theorem mem_dput : ∀ {l : List Dl} {d e : Dl}, e ∈ dput l d → e = d ∨ e ∈ l
  | [], d, e, h => by simp only [dput, List.mem_singleton] at h; exact .inl h
  | x :: t, d, e, h => by
    rw [dput] at h
    split at h
    · rcases List.mem_cons.1 h with h | h
      · exact .inl h
      · exact .inr (List.mem_cons_of_mem _ h)
    · rcases List.mem_cons.1 h with h | h
      · exact .inr (by rw [h]; exact List.mem_cons_self)
      · rcases mem_dput h with h | h
        · exact .inl h
        · exact .inr (List.mem_cons_of_mem _ h)
theorem mem_dput_self : ∀ (l : List Dl) (d : Dl), d ∈ dput l d
  | [], d => List.mem_singleton.2 rfl
  | x :: t, d => by
    rw [dput]
    split
    · exact List.mem_cons_self
    · exact List.mem_cons_of_mem _ (mem_dput_self t d)
/-- The numbers of the deals: those that were there, and behind them the new one. -/
theorem dput_txs : ∀ (l : List Dl) (d : Dl), (dput l d).map (·.tx) = if d.tx ∈ l.map (·.tx) then l.map (·.tx) else l.map (·.tx) ++ [d.tx]
  | [], d => rfl
  | x :: t, d => by
    rw [dput]
    by_cases h : x.tx = d.tx
    · rw [if_pos h, if_pos (by simp [h])]
      simp [h]
    · rw [if_neg h, List.map_cons, dput_txs t d]
      by_cases h2 : d.tx ∈ t.map (·.tx)
      · rw [if_pos h2, if_pos (by simp only [List.map_cons]; exact List.mem_cons_of_mem _ h2), List.map_cons]
      · rw [if_neg h2, if_neg (by simp only [List.map_cons, List.mem_cons, not_or]; exact ⟨fun e => h e.symm, h2⟩)]
        rfl
theorem dput_nodup {l : List Dl} (hn : (l.map (·.tx)).Nodup) (d : Dl) : ((dput l d).map (·.tx)).Nodup := by
  rw [dput_txs]
  split
  · exact hn
  · rename_i h
    exact List.nodup_append.2 ⟨hn, by simp, fun x hx y hy e => h (by rw [List.mem_singleton] at hy; rw [← hy, ← e]; exact hx)⟩
theorem dget_mem : ∀ {l : List Dl}, (l.map (·.tx)).Nodup → ∀ {d : Dl}, d ∈ l → dget l d.tx = some d
  | [], _, _, h => by cases h
  | x :: t, hn, d, h => by
    rw [List.map_cons, List.nodup_cons] at hn
    rw [dget]
    rcases List.mem_cons.1 h with rfl | h
    · rw [if_pos rfl]
    · rw [if_neg (fun e => hn.1 (by rw [e]; exact List.mem_map.2 ⟨d, h, rfl⟩)), dget_mem hn.2 h]
theorem dput_put : ∀ (l : List Dl) {d d' : Dl}, d.tx = d'.tx → dput (dput l d) d' = dput l d'
  | [], d, d', h => by simp [dput, h]
  | x :: t, d, d', h => by
    simp only [dput]
    by_cases h2 : x.tx = d.tx
    · rw [if_pos h2, if_pos (h2.trans h)]
      simp [dput, h]
    · rw [if_neg h2, if_neg (fun e => h2 (e.trans h.symm))]
      simp only [dput]
      rw [if_neg (fun e => h2 (e.trans h.symm)), dput_put t h]
theorem setsL_len (tx : Int) : ∀ (l m : List Int), (setsL tx l m).length = m.length
  | [], _ => rfl
  | i :: t, m => by rw [setsL, setsL_len tx t]; simp
end Go.Proofs.YtjbgjgmdgjnbfaaDoor
