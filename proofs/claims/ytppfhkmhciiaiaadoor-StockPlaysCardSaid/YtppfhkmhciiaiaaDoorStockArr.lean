
/-
  PLAIN FACTS on stocks: what deals ask as two arrays, as the law keeps it.
-/
import Derived.Test.YtppfhkmhciiaiaaDoorStockInv

namespace Go.Proofs.YtppfhkmhciiaiaaDoor
open Go.RowKit

theorem getL_put (m : StM) (k : Int) (v : Int × Int) (d : Int) : getL (putL m k v) d = if d = k then some v else getL m d := by
  induction m with
  | nil => unfold putL getL; by_cases h : d = k <;> simp [h, getL]; intro e; exact absurd e.symm h
  | cons q t ih =>
    unfold putL
    by_cases hq : q.1 = k
    · rw [if_pos hq]
      unfold getL
      by_cases hd : d = k
      · simp [hd]
      · have h1 : ¬ k = d := fun e => hd e.symm
        have h2 : ¬ q.1 = d := fun e => hd (by rw [← e, hq])
        simp [hd, h1, h2]
    · rw [if_neg hq]
      unfold getL
      rw [ih]
      by_cases hd : q.1 = d
      · have h1 : ¬ d = k := fun e => hq (by rw [hd, e])
        simp [hd, h1]
      · simp [hd]
theorem getL_no {m : StM} {k : Int} (h : ∀ p ∈ m, p.1 ≠ k) : getL m k = none := by
  induction m with
  | nil => rfl
  | cons q t ih => unfold getL; rw [if_neg (h q (by simp)), ih fun p hp => h p (by simp [hp])]
theorem getL_del {m : StM} (hn : (m.map (·.1)).Nodup) (k d : Int) : getL (delL m k) d = if d = k then none else getL m d := by
  by_cases hd : d = k
  · rw [if_pos hd, hd]; exact getL_no (del_ne hn)
  rw [if_neg hd]
  clear hn
  induction m with
  | nil => rfl
  | cons q t ih =>
    unfold delL
    by_cases hq : q.1 = k
    · rw [if_pos hq]
      have h2 : ¬ q.1 = d := fun e => hd (by rw [← e, hq])
      rw [getL, if_neg h2]
    · rw [if_neg hq, getL, getL, ih]

def tabA (m : StM) (d : Int) : Int := ((getL m d).getD (0, 0)).1
def tabT (m : StM) (d : Int) : Int := ((getL m d).getD (0, 0)).2
def arrA (m : StM) : List Int := [0, tabA m 1, tabA m 2, tabA m 3, tabA m 4, tabA m 5, tabA m 6]
def arrT (m : StM) : List Int := [0, tabT m 1, tabT m 2, tabT m 3, tabT m 4, tabT m 5, tabT m 6]
theorem six {k : Nat} (h1 : 1 ≤ k) (h2 : k ≤ 6) : k = 1 ∨ k = 2 ∨ k = 3 ∨ k = 4 ∨ k = 5 ∨ k = 6 := by omega
theorem arrA_get (m : StM) {k : Nat} (h1 : 1 ≤ k) (h2 : k ≤ 6) : (arrA m)[k]? = some (tabA m k) := by
  rcases six h1 h2 with rfl | rfl | rfl | rfl | rfl | rfl <;> rfl
theorem arrT_get (m : StM) {k : Nat} (h1 : 1 ≤ k) (h2 : k ≤ 6) : (arrT m)[k]? = some (tabT m k) := by
  rcases six h1 h2 with rfl | rfl | rfl | rfl | rfl | rfl <;> rfl
theorem arr_put (m : StM) {k : Nat} (h1 : 1 ≤ k) (h2 : k ≤ 6) (v : Int × Int) : arrA (putL m k v) = (arrA m).set k v.1 ∧ arrT (putL m k v) = (arrT m).set k v.2 := by
  unfold arrA arrT tabA tabT
  simp only [getL_put]
  rcases six h1 h2 with rfl | rfl | rfl | rfl | rfl | rfl <;> exact ⟨rfl, rfl⟩
theorem arr_del {m : StM} (hn : (m.map (·.1)).Nodup) {k : Nat} (h1 : 1 ≤ k) (h2 : k ≤ 6) : arrA (delL m k) = (arrA m).set k 0 ∧ arrT (delL m k) = (arrT m).set k 0 := by
  unfold arrA arrT tabA tabT
  simp only [getL_del hn]
  rcases six h1 h2 with rfl | rfl | rfl | rfl | rfl | rfl <;> exact ⟨rfl, rfl⟩
def psL (l : List Int) : Nat → Int
  | 0 => 0
  | d + 1 => psL l d + l.getD d 0
theorem sums_tab : ∀ {m : StM}, (m.map (·.1)).Nodup → (∀ p ∈ m, 1 ≤ p.1 ∧ p.1 ≤ 6) → sumA m = tabA m 1 + tabA m 2 + tabA m 3 + tabA m 4 + tabA m 5 + tabA m 6 ∧ sumT m = tabT m 1 + tabT m 2 + tabT m 3 + tabT m 4 + tabT m 5 + tabT m 6
  | [], _, _ => ⟨rfl, rfl⟩
  | (k, v) :: t, hn, hk => by
    simp only [List.map_cons, List.nodup_cons] at hn
    obtain ⟨i1, i2⟩ := sums_tab hn.2 fun p hp => hk p (by simp [hp])
    have hz : getL t k = none := getL_no fun p hp e => hn.1 (List.mem_map.2 ⟨p, hp, e⟩)
    have zA : tabA t k = 0 := by unfold tabA; rw [hz]; rfl
    have zT : tabT t k = 0 := by unfold tabT; rw [hz]; rfl
    have eA : ∀ d, tabA ((k, v) :: t) d = if k = d then v.1 else tabA t d := fun d => by unfold tabA; rw [getL]; split <;> rfl
    have eT : ∀ d, tabT ((k, v) :: t) d = if k = d then v.2 else tabT t d := fun d => by unfold tabT; rw [getL]; split <;> rfl
    simp only [eA, eT, sumA, sumT]
    rw [i1, i2]
    have hk' := hk (k, v) (by simp)
    simp only at hk'
    have h6 : k = 1 ∨ k = 2 ∨ k = 3 ∨ k = 4 ∨ k = 5 ∨ k = 6 := by omega
    rcases h6 with rfl | rfl | rfl | rfl | rfl | rfl <;> simp <;> omega

structure SInv2 (now : Int) (m : StM) : Prop where
  inv : SInv now m
  nz : ∀ p ∈ m, p.2.1 ≠ 0 ∨ p.2.2 ≠ 0
theorem SInv2.new (n : Int) (h0 : 0 ≤ n) (h1 : n ≤ 1000000) : SInv2 n [] := ⟨SInv.new n h0 h1, by simp⟩
theorem SInv2.ps {now : Int} {m : StM} (h : SInv2 now m) : psL (arrA m) 7 = sumA m ∧ psL (arrT m) 7 = sumT m := by
  obtain ⟨h1, h2⟩ := sums_tab h.inv.nd h.inv.keys
  rw [h1, h2]
  exact ⟨by simp [psL, arrA], by simp [psL, arrT]⟩
theorem ps_mono {l : List Int} (h : ∀ x ∈ l, 0 ≤ x) : ∀ {d e : Nat}, d ≤ e → 0 ≤ psL l d ∧ psL l d ≤ psL l e
  | d, 0, hde => by
    obtain rfl : d = 0 := by omega
    exact ⟨Int.le_refl _, Int.le_refl _⟩
  | d, e + 1, hde => by
    have hx : 0 ≤ l.getD e 0 := by
      rw [List.getD_eq_getElem?_getD]
      cases hg : l[e]? with
      | none => simp
      | some x => exact h x (List.mem_of_getElem? hg)
    rcases Nat.lt_or_ge d (e + 1) with h1 | h1
    · obtain ⟨h2, h3⟩ := ps_mono h (d := d) (e := e) (by omega)
      rw [psL]; exact ⟨h2, by omega⟩
    · obtain rfl : d = e + 1 := by omega
      obtain ⟨h2, h3⟩ := ps_mono h (d := e) (e := e) (Nat.le_refl _)
      rw [psL]; exact ⟨by omega, Int.le_refl _⟩
theorem SInv2.tabs {now : Int} {m : StM} (h : SInv2 now m) (d : Int) : 0 ≤ tabA m d ∧ 0 ≤ tabT m d ∧ tabA m d ≤ sumA m ∧ tabT m d ≤ sumT m := getL_pos h.inv.ok.pos d
theorem SInv2.arrs {now : Int} {m : StM} (h : SInv2 now m) : (∀ x ∈ arrA m, 0 ≤ x) ∧ ∀ x ∈ arrT m, 0 ≤ x := by
  unfold arrA arrT
  constructor
  · intro x hx
    simp only [List.mem_cons, List.not_mem_nil, or_false] at hx
    rcases hx with rfl | rfl | rfl | rfl | rfl | rfl | rfl
    · omega
    all_goals exact (h.tabs _).1
  · intro x hx
    simp only [List.mem_cons, List.not_mem_nil, or_false] at hx
    rcases hx with rfl | rfl | rfl | rfl | rfl | rfl | rfl
    · omega
    all_goals exact (h.tabs _).2.1
theorem SInv2.psB {now : Int} {m : StM} (h : SInv2 now m) {d : Nat} (hd : d ≤ 7) : 0 ≤ psL (arrA m) d ∧ psL (arrA m) d ≤ sumA m ∧ 0 ≤ psL (arrT m) d ∧ psL (arrT m) d ≤ sumT m := by
  obtain ⟨h1, h2⟩ := ps_mono h.arrs.1 hd
  obtain ⟨h3, h4⟩ := ps_mono h.arrs.2 hd
  obtain ⟨h5, h6⟩ := h.ps
  rw [h5] at h2
  rw [h6] at h4
  exact ⟨h1, h2, h3, h4⟩
theorem psL_at {l : List Int} {d : Nat} {x : Int} (h : l[d]? = some x) : psL l (d + 1) = psL l d + x := by rw [psL, List.getD_eq_getElem?_getD, h]; rfl
theorem SInv2.bounds {now : Int} {m : StM} (h : SInv2 now m) : 0 ≤ now - sumT m ∧ now + sumA m ≤ 1000000 ∧ 0 ≤ sumT m ∧ 0 ≤ sumA m := ⟨h.inv.ok.low, h.inv.ok.high, (sums_pos h.inv.ok.pos).2, (sums_pos h.inv.ok.pos).1⟩
theorem SInv2.isNo {now : Int} {m : StM} (h : SInv2 now m) {d : Int} (hA : tabA m d = 0) (hT : tabT m d = 0) : getL m d = none := by
  cases hg : getL m d with
  | none => rfl
  | some v =>
    have := h.nz _ (get_mem hg)
    unfold tabA at hA
    unfold tabT at hT
    rw [hg] at hA hT
    simp only [Option.getD_some] at hA hT
    rcases this with h1 | h1
    · exact absurd hA h1
    · exact absurd hT h1
theorem SInv2.isSome {m : StM} {d : Int} (h : tabA m d ≠ 0 ∨ tabT m d ≠ 0) : getL m d = some (tabA m d, tabT m d) := by
  unfold tabA tabT at *
  cases hg : getL m d with
  | none => rw [hg] at h; simp at h
  | some v => rfl
theorem SInv2.put {now : Int} {m : StM} (h : SInv2 now m) {k : Nat} (hk1 : 1 ≤ k) (hk2 : k ≤ 6) {d : Int} (h0 : d ≠ 0) (h1 : 0 ≤ now - sumT m + min d 0) (h2 : now + sumA m + max d 0 ≤ 1000000) :
    SInv2 now (putL m k (tabA m k + max d 0, tabT m k + max (-d) 0)) := by
  refine ⟨h.inv.put (by omega) (by omega) (by omega) (by omega) (by omega), fun p hp => ?_⟩
  rcases mem_put hp with h3 | h3
  · exact h.nz p h3
  · obtain ⟨g1, g2, _⟩ := h.tabs k
    rw [h3]; simp only; omega
theorem SInv2.del {now : Int} {m : StM} (h : SInv2 now m) {k : Int} {v : Int × Int} (hv : getL m k = some v) (c : Bool) : SInv2 (endNow now c v) (delL m k) :=
  ⟨(h.inv.del hv c).1, fun p hp => h.nz p ((del_sub m k).subset hp)⟩
end Go.Proofs.YtppfhkmhciiaiaaDoor
