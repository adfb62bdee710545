
/-
  PLAIN LAWS: with nobody between (danR); deals one behind the other are all done, by each of the rules alike.
-/
import Derived.Test.YtigmgeaimcglhaaValidQ
import Derived.Test.YtigmgeaimcglhaaValidH
import Derived.Test.YtigmgeaimcglhaaN1

namespace Go.Proofs.Ytigmgeaimcglhaa
open Go.RowKit

/-- An edge: from whom that read an item to whom that wrote it, of those that ran at once. -/
def antiD (a b : Dl) : Bool := !decide (a.tx = b.tx) && atOnceD a b && b.wrote.any (readD a)
def pivB (ds : List Dl) (t : Int) : Bool := (ds.any fun a => ds.any fun b => antiD a b && decide (b.tx = t)) && ds.any fun a => ds.any fun b => antiD a b && decide (a.tx = t)
def pivsD (ds : List Dl) : List Int := [1, 2, 3, 4, 5, 6].filter (pivB ds)
def danR : VRules := ⟨snapR.see, sameLook, fun s d => snapR.may s d && (pivsD (doneD s ++ [d])).isEmpty⟩

/-- Deals that came one behind the other. -/
structure Ser (k : Nat) (s : VSt) : Prop where
  dn : s.dn = s.ds.map (·.tx)
  nd : (s.ds.map (·.tx)).Nodup
  apart : s.ds.Pairwise fun a b => a.ended < b.began
  ended : ∀ d ∈ s.ds, 0 ≤ d.began ∧ d.began ≤ d.ended ∧ d.ended < k
theorem ser0 : Ser 0 vs00 := ⟨rfl, List.nodup_nil, .nil, fun _ h => by cases h⟩
theorem Ser.doneD {k : Nat} {s : VSt} (h : Ser k s) : doneD s = s.ds := by
  show s.dn.map _ = s.ds
  rw [h.dn, List.map_map]
  conv => rhs; rw [← List.map_id s.ds]
  refine List.map_congr_left fun d hd => ?_
  show (dget s.ds d.tx).getD _ = d
  rw [dget_mem h.nd hd]; rfl
theorem dget_none : ∀ {l : List Dl} {t : Int}, t ∉ l.map (·.tx) → dget l t = none
  | [], _, _ => rfl
  | d :: l, t, h => by
    rw [List.map_cons, List.mem_cons, not_or] at h
    rw [dget, if_neg (fun e => h.1 e.symm), dget_none h.2]
theorem dput_last : ∀ {l : List Dl} {d d' : Dl}, d.tx ∉ l.map (·.tx) → d.tx = d'.tx → dput (l ++ [d]) d' = l ++ [d']
  | [], d, d', _, h => by
    show dput [d] d' = [d']
    rw [dput, if_pos h]
  | x :: l, d, d', hn, h => by
    rw [List.map_cons, List.mem_cons, not_or] at hn
    show dput (x :: (l ++ [d])) d' = x :: (l ++ [d'])
    rw [dput, if_neg (fun e => hn.1 (h.trans e.symm)), dput_last hn.2 h]
theorem dget_last : ∀ {l : List Dl} {d : Dl}, d.tx ∉ l.map (·.tx) → dget (l ++ [d]) d.tx = some d
  | [], d, _ => by
    show dget [d] d.tx = some d
    rw [dget, if_pos rfl]
  | x :: l, d, hn => by
    rw [List.map_cons, List.mem_cons, not_or] at hn
    show dget (x :: (l ++ [d])) d.tx = some d
    rw [dget, if_neg (fun e => hn.1 e.symm), dget_last hn.2]
/-- What a deal is when it has come and gone. -/
def serD (t : Int) (k : Nat) (e : Int) (a b : Int) (la : List Int) : Dl := ⟨t, k, e, [⟨t, a, la.getD (a.toNat - 1) 0⟩], [b], la⟩
def serS (s : VSt) (t : Int) (k : Nat) (a b : Int) : VSt := ⟨s.ds ++ [serD t k (k + 2 : Nat) a b s.last], s.dn ++ [t], s.last.set (b.toNat - 1) t, s.looks⟩
/-- One piece, by rules that see what was last, and let it commit. -/
theorem vrun3 {R : VRules} {s : VSt} {t a b : Int} {k : Nat} (hn : t ∉ s.ds.map (·.tx)) (hsee : R.see ⟨s.ds ++ [⟨t, k, -1, [], [], s.last⟩], s.dn, s.last, s.looks⟩ ⟨t, k, -1, [], [], s.last⟩ a = s.last.getD (a.toNat - 1) 0) (hlook : ∀ s d i, R.look s d i = s.looks)
    (hmay : R.may ⟨s.ds ++ [serD t k (-1) a b s.last], s.dn, s.last, s.looks⟩ (serD t k (-1) a b s.last) = true) (r : List HOp) : vrun R k ([⟨t, 1, a⟩, ⟨t, 2, b⟩, ⟨t, 3, 0⟩] ++ r) s = vrun R (k + 3) r (serS s t k a b) := by
  have e1 : openS s k t = ⟨s.ds ++ [⟨t, k, -1, [], [], s.last⟩], s.dn, s.last, s.looks⟩ := by
    unfold openS begD
    rw [dget_none hn]
    show (⟨dput s.ds ⟨t, k, -1, [], [], s.last⟩, s.dn, s.last, s.looks⟩ : VSt) = _
    rw [dput_new (by exact hn)]
  have b1 : begD s k t = ⟨t, k, -1, [], [], s.last⟩ := by unfold begD; rw [dget_none hn]; rfl
  have s1 : vstep R k ⟨t, 1, a⟩ s = ⟨s.ds ++ [⟨t, k, -1, [⟨t, a, s.last.getD (a.toNat - 1) 0⟩], [], s.last⟩], s.dn, s.last, s.looks⟩ := by
    unfold vstep
    simp only
    rw [e1, b1, if_pos trivial, if_neg (by simp), hlook, hsee]
    congr 1
    exact dput_last hn rfl
  have key : ∀ (d : Dl) (k' : Nat), d.tx = t → openS ⟨s.ds ++ [d], s.dn, s.last, s.looks⟩ k' t = ⟨s.ds ++ [d], s.dn, s.last, s.looks⟩ ∧ begD ⟨s.ds ++ [d], s.dn, s.last, s.looks⟩ k' t = d := fun d k' hd => openS_has (by rw [← hd]; exact dget_last (by rw [hd]; exact hn))
  have s2 : vstep R (k + 1) ⟨t, 2, b⟩ (vstep R k ⟨t, 1, a⟩ s) = ⟨s.ds ++ [serD t k (-1) a b s.last], s.dn, s.last, s.looks⟩ := by
    rw [s1]
    unfold vstep
    simp only
    rw [(key _ _ rfl).1, (key _ _ rfl).2, if_neg (by decide), if_pos trivial]
    congr 1
    exact dput_last hn rfl
  have s3 : vstep R (k + 2) ⟨t, 3, 0⟩ (vstep R (k + 1) ⟨t, 2, b⟩ (vstep R k ⟨t, 1, a⟩ s)) = serS s t k a b := by
    rw [s2]
    unfold vstep
    simp only
    rw [(key _ _ rfl).1, (key _ _ rfl).2, if_neg (by decide), if_neg (by decide), if_pos trivial, if_pos hmay]
    unfold serS
    congr 1
    exact dput_last hn rfl
  show vrun R (k + 1 + 1 + 1) r _ = _
  rw [s3]
theorem ser_step {k : Nat} {s : VSt} (h : Ser k s) {t : Int} (hn : t ∉ s.ds.map (·.tx)) (a b : Int) : Ser (k + 3) (serS s t k a b) := by
  refine ⟨?_, ?_, ?_, fun d hd => ?_⟩
  · show s.dn ++ [t] = (s.ds ++ [_]).map _
    rw [h.dn, List.map_append]; rfl
  · show ((s.ds ++ [_]).map _).Nodup
    rw [List.map_append, List.nodup_append]
    exact ⟨h.nd, by simp, fun x hx y hy e => hn (by rw [show y = t by simpa [serD] using hy] at e; rw [← e]; exact hx)⟩
  · show (s.ds ++ [_]).Pairwise _
    rw [List.pairwise_append]
    refine ⟨h.apart, by simp, fun x hx y hy => ?_⟩
    rw [List.mem_singleton.1 hy]
    exact (h.ended x hx).2.2
  · rcases List.mem_append.1 hd with hd | hd
    · have := h.ended d hd
      exact ⟨this.1, this.2.1, by omega⟩
    · rw [List.mem_singleton.1 hd]
      show (0 : Int) ≤ (k : Int) ∧ (k : Int) ≤ ((k + 2 : Nat) : Int) ∧ ((k + 2 : Nat) : Int) < _
      omega
theorem ser_since {k : Nat} {ds : List Dl} (h : ∀ d ∈ ds, d.ended < k) (p : Int → Bool) : sinceD k ds p = false := by
  unfold sinceD
  rw [List.any_eq_false]
  intro d hd
  have := h d hd
  rw [decide_eq_false (by omega)]; simp
theorem anti_ser {a b : Dl} (h : a.ended < b.began) (h0 : 0 ≤ a.ended) : antiD a b = false ∧ antiD b a = false := by
  unfold antiD atOnceD
  rw [decide_eq_false (show ¬ a.ended < 0 by omega), decide_eq_false (show ¬ b.began < a.ended by omega)]
  simp
theorem anti_self (a : Dl) : antiD a a = false := by unfold antiD; simp
theorem anti_apart : ∀ {l : List Dl}, (l.Pairwise fun a b => a.ended < b.began) → (∀ d ∈ l, ∀ e ∈ l, d ≠ e → d.ended < e.began ∧ 0 ≤ d.ended ∨ e.ended < d.began ∧ 0 ≤ e.ended) → ∀ a ∈ l, ∀ b ∈ l, antiD a b = false := fun _ h a ha b hb => by
  by_cases e : a = b
  · rw [e]; exact anti_self b
  · rcases h a ha b hb e with h | h
    · exact (anti_ser h.1 h.2).1
    · exact (anti_ser h.1 h.2).2
theorem pivs_none {l : List Dl} (h : ∀ a ∈ l, ∀ b ∈ l, antiD a b = false) : pivsD l = [] := by
  unfold pivsD
  rw [List.filter_eq_nil_iff]
  intro t _
  have : (l.any fun a => l.any fun b => antiD a b && decide (b.tx = t)) = false := by
    rw [List.any_eq_false]
    intro a ha
    rw [Bool.not_eq_true, List.any_eq_false]
    intro b hb
    rw [h a ha b hb]; simp
  unfold pivB
  rw [this]; simp
theorem pairwise_two {α : Type} {r : α → α → Prop} : ∀ {l : List α}, l.Pairwise r → ∀ a ∈ l, ∀ b ∈ l, a ≠ b → r a b ∨ r b a
  | [], _, _, h, _, _, _ => by cases h
  | x :: l, hp, a, ha, b, hb, hne => by
    rw [List.pairwise_cons] at hp
    rcases List.mem_cons.1 ha with e1 | ha
    · rcases List.mem_cons.1 hb with e2 | hb
      · exact absurd (e1.trans e2.symm) hne
      · exact .inl (by rw [e1]; exact hp.1 b hb)
    · rcases List.mem_cons.1 hb with e2 | hb
      · exact .inr (by rw [e2]; exact hp.1 a ha)
      · exact pairwise_two hp.2 a ha b hb hne
theorem ser_anti {k : Nat} {s : VSt} (h : Ser k s) {d : Dl} (hb : d.began = k) : ∀ x ∈ s.ds ++ [d], ∀ y ∈ s.ds ++ [d], antiD x y = false := by
  intro x hx y hy
  rcases List.mem_append.1 hx with hx | hx <;> rcases List.mem_append.1 hy with hy | hy
  · by_cases e : x = y
    · rw [e]; exact anti_self y
    · have h1 := h.ended x hx
      have h2 := h.ended y hy
      rcases pairwise_two h.apart x hx y hy e with h3 | h3
      · exact (anti_ser h3 (by omega)).1
      · exact (anti_ser h3 (by omega)).2
  · rw [List.mem_singleton.1 hy]
    have h1 := h.ended x hx
    exact (anti_ser (by omega) (by omega)).1
  · rw [List.mem_singleton.1 hx]
    have h1 := h.ended y hy
    exact (anti_ser (by omega) (by omega)).2
  · rw [List.mem_singleton.1 hx, List.mem_singleton.1 hy]; exact anti_self d
theorem doneD_snoc {k : Nat} {s : VSt} (h : Ser k s) {d : Dl} (hn : d.tx ∉ s.ds.map (·.tx)) : doneD ⟨s.ds ++ [d], s.dn, s.last, s.looks⟩ = s.ds := by
  refine Eq.trans ?_ h.doneD
  refine List.map_congr_left fun t ht => ?_
  show (dget (s.ds ++ [d]) t).getD _ = (dget s.ds t).getD _
  rw [← dput_new hn, dget_put, if_neg (fun e => hn (by rw [e, ← h.dn]; exact ht))]
/-- One piece, by each of the rules. -/
theorem piece_step {k : Nat} {s : VSt} (h : Ser k s) {t a b : Int} (hn : t ∉ s.ds.map (·.tx)) (r : List HOp) {R : VRules} (hR : R = validR ∨ R = snapR ∨ R = danR) : vrun R k ([⟨t, 1, a⟩, ⟨t, 2, b⟩, ⟨t, 3, 0⟩] ++ r) s = vrun R (k + 3) r (serS s t k a b) := by
  have hd : doneD ⟨s.ds ++ [serD t k (-1) a b s.last], s.dn, s.last, s.looks⟩ = s.ds := doneD_snoc h hn
  have he : ∀ d ∈ s.ds, d.ended < k := fun d hd => (h.ended d hd).2.2
  rcases hR with rfl | rfl | rfl
  · refine vrun3 hn rfl (fun _ _ _ => rfl) ?_ r
    show (!sinceD k _ _) = true
    rw [hd, ser_since he]; rfl
  · refine vrun3 hn rfl (fun _ _ _ => rfl) ?_ r
    show (!sinceD k _ _) = true
    rw [hd, ser_since he]; rfl
  · refine vrun3 hn rfl (fun _ _ _ => rfl) ?_ r
    show ((!sinceD k _ _) && (pivsD (_ ++ [_])).isEmpty) = true
    rw [hd, ser_since he, pivs_none (ser_anti h rfl)]; rfl
theorem pieces_run {a b : Int} {R : VRules} (hR : R = validR ∨ R = snapR ∨ R = danR) : ∀ (q : List Int) (k : Nat) (s : VSt), Ser k s → q.Nodup → (∀ t ∈ q, t ∉ s.ds.map (·.tx)) →
    ∃ k', Ser k' (vrun R k (piecesH a b q) s) ∧ (vrun R k (piecesH a b q) s).dn = s.dn ++ q ∧ vrun R k (piecesH a b q) s = vrun validR k (piecesH a b q) s
  | [], k, s, h, _, _ => ⟨k, h, by show s.dn = s.dn ++ []; rw [List.append_nil], rfl⟩
  | t :: q, k, s, h, hn, hf => by
    rw [List.nodup_cons] at hn
    have ht := hf t List.mem_cons_self
    rw [piecesH_cons, piece_step h ht _ hR, piece_step h ht _ (.inl rfl)]
    obtain ⟨k', h1, h2, h3⟩ := pieces_run (a := a) (b := b) hR q (k + 3) (serS s t k a b) (ser_step h ht a b) hn.2 (fun x hx => by
      show x ∉ (s.ds ++ [_]).map _
      rw [List.map_append, List.mem_append, not_or]
      exact ⟨hf x (List.mem_cons_of_mem _ hx), fun e => hn.1 (by rw [show x = t by simpa [serD] using e] at hx; exact hx)⟩)
    refine ⟨k', h1, ?_, h3⟩
    rw [h2]
    show (s.dn ++ [t]) ++ q = _
    simp
/-- Deals one behind the other: all are done, by each of the rules alike; and no two ran at once. -/
theorem runs_serial {a b : Int} {q : List Int} (hq : q.Nodup) {R : VRules} (hR : R = validR ∨ R = snapR ∨ R = danR) : playV R (piecesH a b q) = playV validR (piecesH a b q) ∧ (playV R (piecesH a b q)).dn = q ∧ ∃ k, Ser k (playV R (piecesH a b q)) := by
  obtain ⟨k, h1, h2, h3⟩ := pieces_run (a := a) (b := b) hR q 0 vs00 ser0 hq (fun _ _ h => by cases h)
  exact ⟨h3, h2, k, h1⟩
theorem ser_apart {k : Nat} {s : VSt} (h : Ser k s) {x y : Dl} (hx : x ∈ s.ds) (hy : y ∈ s.ds) (hne : x.tx < y.tx) : atOnceD x y = false := by
  have h1 := h.ended x hx
  have h2 := h.ended y hy
  unfold atOnceD
  rcases pairwise_two h.apart x hx y hy (fun e => by rw [e] at hne; omega) with h3 | h3
  · rw [decide_eq_false (show ¬ x.ended < 0 by omega), decide_eq_false (show ¬ y.began < x.ended by omega)]; simp
  · rw [decide_eq_false (show ¬ y.ended < 0 by omega), decide_eq_false (show ¬ x.began < y.ended by omega)]; simp
end Go.Proofs.Ytigmgeaimcglhaa
