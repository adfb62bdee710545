
/-
  WHAT ALWAYS HOLDS OF A STOCK: Ask and End keep it, whatever is asked.
-/
import Derived.Test.YtppfhkmhciiaiaaDoorStockEnd

namespace Go.Proofs.YtppfhkmhciiaiaaDoor
open Go.RowKit

structure SInv (now : Int) (m : StM) : Prop where
  ok : StOk now m
  nd : (m.map (·.1)).Nodup
  keys : ∀ p ∈ m, 1 ≤ p.1 ∧ p.1 ≤ 6
theorem SInv.new (n : Int) (h0 : 0 ≤ n) (h1 : n ≤ 1000000) : SInv n [] := ⟨⟨by simp, by simp [sumT]; omega, by simp [sumA]; omega⟩, by simp, by simp⟩

theorem mem_put {m : StM} {k : Int} {v : Int × Int} {p : Int × (Int × Int)} (h : p ∈ putL m k v) : p ∈ m ∨ p = (k, v) := by
  induction m with
  | nil => simpa [putL] using h
  | cons q t ih =>
    unfold putL at h
    split at h
    · rcases List.mem_cons.1 h with h | h
      · exact .inr h
      · exact .inl (by simp [h])
    · rcases List.mem_cons.1 h with h | h
      · exact .inl (by simp [h])
      · rcases ih h with h | h
        · exact .inl (by simp [h])
        · exact .inr h
theorem sums_put (m : StM) (k : Int) (v : Int × Int) : sumA (putL m k v) = sumA m - ((getL m k).getD (0, 0)).1 + v.1 ∧ sumT (putL m k v) = sumT m - ((getL m k).getD (0, 0)).2 + v.2 := by
  induction m with
  | nil => simp [putL, getL, sumA, sumT]
  | cons q t ih =>
    unfold putL getL
    split
    · simp only [sumA, sumT, Option.getD_some]; omega
    · simp only [sumA, sumT]; omega
theorem keys_put (m : StM) (k : Int) (v : Int × Int) (h : (m.map (·.1)).Nodup) : ((putL m k v).map (·.1)).Nodup := by
  induction m with
  | nil => simp [putL]
  | cons q t ih =>
    simp only [List.map_cons, List.nodup_cons] at h
    unfold putL
    split
    · rename_i hq
      simp only [List.map_cons, List.nodup_cons]
      exact ⟨by rw [← hq]; exact h.1, h.2⟩
    · rename_i hq
      simp only [List.map_cons, List.nodup_cons]
      refine ⟨fun hm => ?_, ih h.2⟩
      obtain ⟨p, hp, he⟩ := List.mem_map.1 hm
      rcases mem_put hp with h1 | h1
      · exact h.1 (List.mem_map.2 ⟨p, h1, he⟩)
      · rw [h1] at he; exact hq he.symm
theorem get_mem {m : StM} {k : Int} {v : Int × Int} (h : getL m k = some v) : (k, v) ∈ m := by
  induction m with
  | nil => simp [getL] at h
  | cons q t ih =>
    unfold getL at h
    split at h
    · rename_i hq
      injection h with h
      rw [← hq, ← h]; simp
    · exact List.mem_cons_of_mem _ (ih h)
theorem get_none {m : StM} {k : Int} (h : getL m k = none) : ∀ p ∈ m, p.1 ≠ k := by
  induction m with
  | nil => simp
  | cons q t ih =>
    unfold getL at h
    split at h
    · cases h
    · rename_i hq
      intro p hp
      rcases List.mem_cons.1 hp with h1 | h1
      · rw [h1]; exact hq
      · exact ih h p h1
theorem sums_del {m : StM} {k : Int} {v : Int × Int} (h : getL m k = some v) : sumA m = v.1 + sumA (delL m k) ∧ sumT m = v.2 + sumT (delL m k) := by
  induction m with
  | nil => simp [getL] at h
  | cons q t ih =>
    unfold getL at h
    unfold delL
    split at h
    · rename_i hq
      injection h with h
      rw [if_pos hq]
      simp [sumA, sumT, h]
    · rename_i hq
      rw [if_neg hq]
      have := ih h
      simp only [sumA, sumT]; omega
theorem del_sub (m : StM) (k : Int) : (delL m k).Sublist m := by
  induction m with
  | nil => exact List.Sublist.refl _
  | cons q t ih =>
    unfold delL
    split
    · exact List.sublist_cons_self _ _
    · exact ih.cons_cons _
theorem del_ne {m : StM} {k : Int} (h : (m.map (·.1)).Nodup) : ∀ p ∈ delL m k, p.1 ≠ k := by
  induction m with
  | nil => simp [delL]
  | cons q t ih =>
    simp only [List.map_cons, List.nodup_cons] at h
    unfold delL
    split
    · rename_i hq
      intro p hp e
      exact h.1 (List.mem_map.2 ⟨p, hp, by rw [e, hq]⟩)
    · rename_i hq
      intro p hp
      rcases List.mem_cons.1 hp with h1 | h1
      · rw [h1]; exact hq
      · exact ih h.2 p h1

theorem SInv.put {now : Int} {m : StM} (h : SInv now m) {k : Int} (hk : 1 ≤ k ∧ k ≤ 6) {U D : Int} (hU : 0 ≤ U) (hD : 0 ≤ D) (h1 : 0 ≤ now - sumT m - D) (h2 : now + sumA m + U ≤ 1000000) :
    SInv now (putL m k (((getL m k).getD (0, 0)).1 + U, ((getL m k).getD (0, 0)).2 + D)) := by
  obtain ⟨s1, s2⟩ := sums_put m k (((getL m k).getD (0, 0)).1 + U, ((getL m k).getD (0, 0)).2 + D)
  obtain ⟨g1, g2, _, _⟩ := getL_pos h.ok.pos k
  refine ⟨⟨fun p hp => ?_, by simp only at s2; omega, by simp only at s1; omega⟩, keys_put _ _ _ h.nd, fun p hp => ?_⟩
  · rcases mem_put hp with h3 | h3
    · exact h.ok.pos p h3
    · rw [h3]; simp only; omega
  · rcases mem_put hp with h3 | h3
    · exact h.keys p h3
    · rw [h3]; exact hk
theorem SInv.del {now : Int} {m : StM} (h : SInv now m) {k : Int} {v : Int × Int} (hv : getL m k = some v) (c : Bool) :
    SInv (endNow now c v) (delL m k) ∧ now - sumT m ≤ endNow now c v ∧ endNow now c v ≤ now + sumA m ∧ now - sumT m ≤ endNow now c v - sumT (delL m k) ∧ endNow now c v + sumA (delL m k) ≤ now + sumA m := by
  obtain ⟨s1, s2⟩ := sums_del hv
  have hp := h.ok.pos _ (get_mem hv)
  simp only at hp
  have hq := sums_pos (m := delL m k) fun p hp => h.ok.pos p ((del_sub m k).subset hp)
  have ho1 := h.ok.low
  have ho2 := h.ok.high
  have he : endNow now c v = now + (v.1 - v.2) ∨ endNow now c v = now := by cases c <;> simp [endNow]
  refine ⟨⟨⟨fun p hp => h.ok.pos p ((del_sub m k).subset hp), by rcases he with e | e <;> rw [e] <;> omega, by rcases he with e | e <;> rw [e] <;> omega⟩, h.nd.sublist ((del_sub m k).map _), fun p hp => h.keys p ((del_sub m k).subset hp)⟩, ?_, ?_, ?_, ?_⟩
  all_goals rcases he with e | e <;> rw [e] <;> omega

/-- Whatever is asked. -/
def AskPost (w : World) (s b lo : Nat) (now : Int) (e : Ending) (w' : World) : Prop := ∃ r er m', e = .returned (.tuple #[.bool r, er]) ∧ StW w' s b now m' ∧ SInv now m' ∧ Below lo w w'
theorem ask_all (s b : Nat) (now : Int) (m : StM) (tx d : Int) (w : World) (lo : Nat) (h : StW w s b now m) (hi : SInv now m) (hlb : lo ≤ b) (hlw : lo ≤ w.heap.size) :
    Calls Tryd.prog 7 #[.pointer (some ⟨s, 0, none⟩), .int .i64 tx, .int .i64 d] w (AskPost w s b lo now) := by
  by_cases hb : txB tx = false ∨ d = 0 ∨ d < -1000000 ∨ 1000000 < d
  · exact (ask_bad s tx d w hb).mono fun e w' ⟨he, hw⟩ => ⟨_, _, m, he, hw ▸ h, hi, hw ▸ Below.refl _ _⟩
  have hT : txB tx = true := by cases hT : txB tx <;> simp [hT] at hb ⊢
  have hk : 1 ≤ tx ∧ tx ≤ 6 := by simpa [txB] using hT
  have h0 : d ≠ 0 := fun e => hb (.inr (.inl e))
  have h1 : -1000000 ≤ d := by
    rcases Int.lt_or_le d (-1000000) with h | h
    · exact absurd (.inr (.inr (.inl h))) hb
    · exact h
  have h2 : d ≤ 1000000 := by
    rcases Int.lt_or_le 1000000 d with h | h
    · exact absurd (.inr (.inr (.inr h))) hb
    · exact h
  by_cases hn : now - sumT m + min d 0 < 0 ∨ 1000000 < now + sumA m + max d 0
  · exact (ask_no s b now m tx d w h hi.ok hT h0 h1 h2 hn).mono fun e w' ⟨he, hw⟩ => ⟨_, _, m, he, h.grown hw, hi, hw.mono hlw⟩
  · have hn1 : 0 ≤ now - sumT m + min d 0 := by omega
    have hn2 : now + sumA m + max d 0 ≤ 1000000 := by omega
    exact (ask_yes s b now m tx d w lo h hi.ok hlb hlw hT h0 h1 h2 hn1 hn2).mono fun e w' ⟨he, hs, hw⟩ => ⟨_, _, _, he, hs, hi.put hk (by omega) (by omega) (by omega) (by omega), hw⟩

/-- However it ends. -/
structure EndOk (now : Int) (m : StM) (tx : Int) (now' : Int) (m' : StM) : Prop where
  inv : SInv now' m'
  low : now - sumT m ≤ now' - sumT m'
  high : now' + sumA m' ≤ now + sumA m
  sub : ∀ p ∈ m', p ∈ m ∧ p.1 ≠ tx
def EndPost (w : World) (s b lo : Nat) (now : Int) (m : StM) (tx : Int) (e : Ending) (w' : World) : Prop :=
  ∃ k er now' m', e = .returned (.tuple #[.int .i64 k, er]) ∧ StW w' s b now' m' ∧ Below lo w w' ∧ EndOk now m tx now' m' ∧ ((∃ x, er = .iface 41 (.int .i64 x)) ∨ (er = .nilIface ∧ k = now' ∧ now - sumT m ≤ now' ∧ now' ≤ now + sumA m))
theorem end_all (s b : Nat) (now : Int) (m : StM) (tx : Int) (c : Bool) (w : World) (lo : Nat) (h : StW w s b now m) (hi : SInv now m) (hls : lo ≤ s) (hlb : lo ≤ b) (hlw : lo ≤ w.heap.size) :
    Calls Tryd.prog 8 #[.pointer (some ⟨s, 0, none⟩), .int .i64 tx, .bool c] w (EndPost w s b lo now m tx) := by
  cases hT : txB tx
  · refine (end_bad s tx c w hT).mono fun e w' ⟨he, hw⟩ => ⟨_, _, now, m, he, hw ▸ h, hw ▸ Below.refl _ _, ⟨hi, Int.le_refl _, Int.le_refl _, fun p hp => ⟨hp, fun e => ?_⟩⟩, .inl ⟨_, rfl⟩⟩
    have := hi.keys p hp
    rw [e] at this
    simp [txB, this] at hT
  have hq := sums_pos hi.ok.pos
  have ho1 := hi.ok.low
  have ho2 := hi.ok.high
  cases hg : getL m tx with
  | none => exact (end_none s b now m tx c w h hT hg).mono fun e w' ⟨he, hw⟩ => ⟨_, _, now, m, he, h.grown hw, hw.mono hlw, ⟨hi, Int.le_refl _, Int.le_refl _, fun p hp => ⟨hp, get_none hg p hp⟩⟩, .inl ⟨_, rfl⟩⟩
  | some v =>
    obtain ⟨av, tv⟩ := v
    have hp := getL_pos hi.ok.pos tx
    rw [hg] at hp
    simp only [Option.getD_some] at hp
    obtain ⟨d1, d2, d3, d4, d5⟩ := hi.del hg c
    exact (end_some s b now m tx c av tv w lo h hls hlb hlw hT hg (by omega) (by omega) (by omega) (by omega) (by omega) (by omega)).mono fun e w' ⟨he, hs, hw⟩ =>
      ⟨_, _, _, _, he, hs, hw, ⟨d1, d4, d5, fun p hp => ⟨(del_sub m tx).subset hp, del_ne hi.nd p hp⟩⟩, .inr ⟨rfl, rfl, d2, d3⟩⟩
end Go.Proofs.YtppfhkmhciiaiaaDoor
