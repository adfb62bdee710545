
/-
  PLAIN LAWS: with nobody between (danR); deals one behind the other are all done, by each of the rules alike.
  PLAIN LAWS: a run that sees what was when deals began: its state behind so many ops (InvS).
  PLAIN LAWS: who is between: with nobody between all goes as by what was when deals began; where one alone writes nobody is between.
  PLAIN LAW (Fekete): with nobody between there is an order by which all goes as if one behind the other.
  PLAIN LAWS: with versions: by their numbers (verR, InvM, ver_serial, ver_reader).
-/
import Derived.Test.YtaaahfbcpgdoiaaGreatDoorQ36
import Derived.Test.YtaaahfbcpgdoiaaGreatDoorValidH
import Derived.Test.YtaaahfbcpgdoiaaGreatDoorQ23

namespace Go.Proofs.YtaaahfbcpgdoiaaGreatDoor
open Go.RowKit

/-- An edge: from whom that read an item to whom that wrote it, of those that ran at once. -/
def antiD (a b : Dl) : Bool := !decide (a.tx = b.tx) && atOnceD a b && b.wrote.any (readD a)
def pivB (ds : List Dl) (t : Int) : Bool := (ds.any fun a => ds.any fun b => antiD a b && decide (b.tx = t)) && ds.any fun a => ds.any fun b => antiD a b && decide (a.tx = t)
def pivsD (ds : List Dl) : List Int := [1, 2, 3, 4, 5, 6].filter (pivB ds)
def danR : VRules := ⟨snapR.see, sameLook, fun s d => snapR.may s d && (pivsD (doneD s ++ [d])).isEmpty⟩

/-- Deals that came one behind the other. -/
structure Ser (k : Nat) (s : VSt) : Prop where
  dn : s.dn = s.ds.map (·.tx)
  nd : (s.ds.map (·.tx)).Nodup
  apart : s.ds.Pairwise fun a b => a.ended < b.began
  ended : ∀ d ∈ s.ds, 0 ≤ d.began ∧ d.began ≤ d.ended ∧ d.ended < k
theorem ser0 : Ser 0 vs00 := ⟨rfl, List.nodup_nil, .nil, fun _ h => by cases h⟩
theorem Ser.doneD {k : Nat} {s : VSt} (h : Ser k s) : doneD s = s.ds := by
  show s.dn.map _ = s.ds
  rw [h.dn, List.map_map]
  conv => rhs; rw [← List.map_id s.ds]
  refine List.map_congr_left fun d hd => ?_
  show (dget s.ds d.tx).getD _ = d
  rw [dget_mem h.nd hd]; rfl
theorem dget_none : ∀ {l : List Dl} {t : Int}, t ∉ l.map (·.tx) → dget l t = none
  | [], _, _ => rfl
  | d :: l, t, h => by
    rw [List.map_cons, List.mem_cons, not_or] at h
    rw [dget, if_neg (fun e => h.1 e.symm), dget_none h.2]
theorem dput_last : ∀ {l : List Dl} {d d' : Dl}, d.tx ∉ l.map (·.tx) → d.tx = d'.tx → dput (l ++ [d]) d' = l ++ [d']
  | [], d, d', _, h => by
    show dput [d] d' = [d']
    rw [dput, if_pos h]
  | x :: l, d, d', hn, h => by
    rw [List.map_cons, List.mem_cons, not_or] at hn
    show dput (x :: (l ++ [d])) d' = x :: (l ++ [d'])
    rw [dput, if_neg (fun e => hn.1 (h.trans e.symm)), dput_last hn.2 h]
theorem dget_last : ∀ {l : List Dl} {d : Dl}, d.tx ∉ l.map (·.tx) → dget (l ++ [d]) d.tx = some d
  | [], d, _ => by
    show dget [d] d.tx = some d
    rw [dget, if_pos rfl]
  | x :: l, d, hn => by
    rw [List.map_cons, List.mem_cons, not_or] at hn
    show dget (x :: (l ++ [d])) d.tx = some d
    rw [dget, if_neg (fun e => hn.1 e.symm), dget_last hn.2]
/-- What a deal is when it has come and gone. -/
def serD (t : Int) (k : Nat) (e : Int) (a b : Int) (la : List Int) : Dl := ⟨t, k, e, [⟨t, a, la.getD (a.toNat - 1) 0⟩], [b], la⟩
def serS (s : VSt) (t : Int) (k : Nat) (a b : Int) : VSt := ⟨s.ds ++ [serD t k (k + 2 : Nat) a b s.last], s.dn ++ [t], s.last.set (b.toNat - 1) t, s.looks⟩
/-- One piece, by rules that see what was last, and let it commit. -/
theorem vrun3 {R : VRules} {s : VSt} {t a b : Int} {k : Nat} (hn : t ∉ s.ds.map (·.tx)) (hsee : R.see ⟨s.ds ++ [⟨t, k, -1, [], [], s.last⟩], s.dn, s.last, s.looks⟩ ⟨t, k, -1, [], [], s.last⟩ a = s.last.getD (a.toNat - 1) 0) (hlook : ∀ s d i, R.look s d i = s.looks)
    (hmay : R.may ⟨s.ds ++ [serD t k (-1) a b s.last], s.dn, s.last, s.looks⟩ (serD t k (-1) a b s.last) = true) (r : List HOp) : vrun R k ([⟨t, 1, a⟩, ⟨t, 2, b⟩, ⟨t, 3, 0⟩] ++ r) s = vrun R (k + 3) r (serS s t k a b) := by
  have e1 : openS s k t = ⟨s.ds ++ [⟨t, k, -1, [], [], s.last⟩], s.dn, s.last, s.looks⟩ := by
    unfold openS begD
    rw [dget_none hn]
    show (⟨dput s.ds ⟨t, k, -1, [], [], s.last⟩, s.dn, s.last, s.looks⟩ : VSt) = _
    rw [dput_new (by exact hn)]
  have b1 : begD s k t = ⟨t, k, -1, [], [], s.last⟩ := by unfold begD; rw [dget_none hn]; rfl
  have s1 : vstep R k ⟨t, 1, a⟩ s = ⟨s.ds ++ [⟨t, k, -1, [⟨t, a, s.last.getD (a.toNat - 1) 0⟩], [], s.last⟩], s.dn, s.last, s.looks⟩ := by
    unfold vstep
    simp only
    rw [e1, b1, if_pos trivial, if_neg (by simp), hlook, hsee]
    congr 1
    exact dput_last hn rfl
  have key : ∀ (d : Dl) (k' : Nat), d.tx = t → openS ⟨s.ds ++ [d], s.dn, s.last, s.looks⟩ k' t = ⟨s.ds ++ [d], s.dn, s.last, s.looks⟩ ∧ begD ⟨s.ds ++ [d], s.dn, s.last, s.looks⟩ k' t = d := fun d k' hd => openS_has (by rw [← hd]; exact dget_last (by rw [hd]; exact hn))
  have s2 : vstep R (k + 1) ⟨t, 2, b⟩ (vstep R k ⟨t, 1, a⟩ s) = ⟨s.ds ++ [serD t k (-1) a b s.last], s.dn, s.last, s.looks⟩ := by
    rw [s1]
    unfold vstep
    simp only
    rw [(key _ _ rfl).1, (key _ _ rfl).2, if_neg (by decide), if_pos trivial]
    congr 1
    exact dput_last hn rfl
  have s3 : vstep R (k + 2) ⟨t, 3, 0⟩ (vstep R (k + 1) ⟨t, 2, b⟩ (vstep R k ⟨t, 1, a⟩ s)) = serS s t k a b := by
    rw [s2]
    unfold vstep
    simp only
    rw [(key _ _ rfl).1, (key _ _ rfl).2, if_neg (by decide), if_neg (by decide), if_pos trivial, if_pos hmay]
    unfold serS
    congr 1
    exact dput_last hn rfl
  show vrun R (k + 1 + 1 + 1) r _ = _
  rw [s3]
theorem ser_step {k : Nat} {s : VSt} (h : Ser k s) {t : Int} (hn : t ∉ s.ds.map (·.tx)) (a b : Int) : Ser (k + 3) (serS s t k a b) := by
  refine ⟨?_, ?_, ?_, fun d hd => ?_⟩
  · show s.dn ++ [t] = (s.ds ++ [_]).map _
    rw [h.dn, List.map_append]; rfl
  · show ((s.ds ++ [_]).map _).Nodup
    rw [List.map_append, List.nodup_append]
    exact ⟨h.nd, by simp, fun x hx y hy e => hn (by rw [show y = t by simpa [serD] using hy] at e; rw [← e]; exact hx)⟩
  · show (s.ds ++ [_]).Pairwise _
    rw [List.pairwise_append]
    refine ⟨h.apart, by simp, fun x hx y hy => ?_⟩
    rw [List.mem_singleton.1 hy]
    exact (h.ended x hx).2.2
  · rcases List.mem_append.1 hd with hd | hd
    · have := h.ended d hd
      exact ⟨this.1, this.2.1, by omega⟩
    · rw [List.mem_singleton.1 hd]
      show (0 : Int) ≤ (k : Int) ∧ (k : Int) ≤ ((k + 2 : Nat) : Int) ∧ ((k + 2 : Nat) : Int) < _
      omega
theorem ser_since {k : Nat} {ds : List Dl} (h : ∀ d ∈ ds, d.ended < k) (p : Int → Bool) : sinceD k ds p = false := by
  unfold sinceD
  rw [List.any_eq_false]
  intro d hd
  have := h d hd
  rw [decide_eq_false (by omega)]; simp
theorem anti_ser {a b : Dl} (h : a.ended < b.began) (h0 : 0 ≤ a.ended) : antiD a b = false ∧ antiD b a = false := by
  unfold antiD atOnceD
  rw [decide_eq_false (show ¬ a.ended < 0 by omega), decide_eq_false (show ¬ b.began < a.ended by omega)]
  simp
theorem anti_self (a : Dl) : antiD a a = false := by unfold antiD; simp
theorem anti_apart : ∀ {l : List Dl}, (l.Pairwise fun a b => a.ended < b.began) → (∀ d ∈ l, ∀ e ∈ l, d ≠ e → d.ended < e.began ∧ 0 ≤ d.ended ∨ e.ended < d.began ∧ 0 ≤ e.ended) → ∀ a ∈ l, ∀ b ∈ l, antiD a b = false := fun _ h a ha b hb => by
  by_cases e : a = b
  · rw [e]; exact anti_self b
  · rcases h a ha b hb e with h | h
    · exact (anti_ser h.1 h.2).1
    · exact (anti_ser h.1 h.2).2
theorem pivs_none {l : List Dl} (h : ∀ a ∈ l, ∀ b ∈ l, antiD a b = false) : pivsD l = [] := by
  unfold pivsD
  rw [List.filter_eq_nil_iff]
  intro t _
  have : (l.any fun a => l.any fun b => antiD a b && decide (b.tx = t)) = false := by
    rw [List.any_eq_false]
    intro a ha
    rw [Bool.not_eq_true, List.any_eq_false]
    intro b hb
    rw [h a ha b hb]; simp
  unfold pivB
  rw [this]; simp
theorem pairwise_two {α : Type} {r : α → α → Prop} : ∀ {l : List α}, l.Pairwise r → ∀ a ∈ l, ∀ b ∈ l, a ≠ b → r a b ∨ r b a
  | [], _, _, h, _, _, _ => by cases h
  | x :: l, hp, a, ha, b, hb, hne => by
    rw [List.pairwise_cons] at hp
    rcases List.mem_cons.1 ha with e1 | ha
    · rcases List.mem_cons.1 hb with e2 | hb
      · exact absurd (e1.trans e2.symm) hne
      · exact .inl (by rw [e1]; exact hp.1 b hb)
    · rcases List.mem_cons.1 hb with e2 | hb
      · exact .inr (by rw [e2]; exact hp.1 a ha)
      · exact pairwise_two hp.2 a ha b hb hne
theorem ser_anti {k : Nat} {s : VSt} (h : Ser k s) {d : Dl} (hb : d.began = k) : ∀ x ∈ s.ds ++ [d], ∀ y ∈ s.ds ++ [d], antiD x y = false := by
  intro x hx y hy
  rcases List.mem_append.1 hx with hx | hx <;> rcases List.mem_append.1 hy with hy | hy
  · by_cases e : x = y
    · rw [e]; exact anti_self y
    · have h1 := h.ended x hx
      have h2 := h.ended y hy
      rcases pairwise_two h.apart x hx y hy e with h3 | h3
      · exact (anti_ser h3 (by omega)).1
      · exact (anti_ser h3 (by omega)).2
  · rw [List.mem_singleton.1 hy]
    have h1 := h.ended x hx
    exact (anti_ser (by omega) (by omega)).1
  · rw [List.mem_singleton.1 hx]
    have h1 := h.ended y hy
    exact (anti_ser (by omega) (by omega)).2
  · rw [List.mem_singleton.1 hx, List.mem_singleton.1 hy]; exact anti_self d
theorem doneD_snoc {k : Nat} {s : VSt} (h : Ser k s) {d : Dl} (hn : d.tx ∉ s.ds.map (·.tx)) : doneD ⟨s.ds ++ [d], s.dn, s.last, s.looks⟩ = s.ds := by
  refine Eq.trans ?_ h.doneD
  refine List.map_congr_left fun t ht => ?_
  show (dget (s.ds ++ [d]) t).getD _ = (dget s.ds t).getD _
  rw [← dput_new hn, dget_put, if_neg (fun e => hn (by rw [e, ← h.dn]; exact ht))]
/-- One piece, by each of the rules. -/
theorem piece_step {k : Nat} {s : VSt} (h : Ser k s) {t a b : Int} (hn : t ∉ s.ds.map (·.tx)) (r : List HOp) {R : VRules} (hR : R = validR ∨ R = snapR ∨ R = danR) : vrun R k ([⟨t, 1, a⟩, ⟨t, 2, b⟩, ⟨t, 3, 0⟩] ++ r) s = vrun R (k + 3) r (serS s t k a b) := by
  have hd : doneD ⟨s.ds ++ [serD t k (-1) a b s.last], s.dn, s.last, s.looks⟩ = s.ds := doneD_snoc h hn
  have he : ∀ d ∈ s.ds, d.ended < k := fun d hd => (h.ended d hd).2.2
  rcases hR with rfl | rfl | rfl
  · refine vrun3 hn rfl (fun _ _ _ => rfl) ?_ r
    show (!sinceD k _ _) = true
    rw [hd, ser_since he]; rfl
  · refine vrun3 hn rfl (fun _ _ _ => rfl) ?_ r
    show (!sinceD k _ _) = true
    rw [hd, ser_since he]; rfl
  · refine vrun3 hn rfl (fun _ _ _ => rfl) ?_ r
    show ((!sinceD k _ _) && (pivsD (_ ++ [_])).isEmpty) = true
    rw [hd, ser_since he, pivs_none (ser_anti h rfl)]; rfl
theorem pieces_run {a b : Int} {R : VRules} (hR : R = validR ∨ R = snapR ∨ R = danR) : ∀ (q : List Int) (k : Nat) (s : VSt), Ser k s → q.Nodup → (∀ t ∈ q, t ∉ s.ds.map (·.tx)) →
    ∃ k', Ser k' (vrun R k (piecesH a b q) s) ∧ (vrun R k (piecesH a b q) s).dn = s.dn ++ q ∧ vrun R k (piecesH a b q) s = vrun validR k (piecesH a b q) s
  | [], k, s, h, _, _ => ⟨k, h, by show s.dn = s.dn ++ []; rw [List.append_nil], rfl⟩
  | t :: q, k, s, h, hn, hf => by
    rw [List.nodup_cons] at hn
    have ht := hf t List.mem_cons_self
    rw [piecesH_cons, piece_step h ht _ hR, piece_step h ht _ (.inl rfl)]
    obtain ⟨k', h1, h2, h3⟩ := pieces_run (a := a) (b := b) hR q (k + 3) (serS s t k a b) (ser_step h ht a b) hn.2 (fun x hx => by
      show x ∉ (s.ds ++ [_]).map _
      rw [List.map_append, List.mem_append, not_or]
      exact ⟨hf x (List.mem_cons_of_mem _ hx), fun e => hn.1 (by rw [show x = t by simpa [serD] using e] at hx; exact hx)⟩)
    refine ⟨k', h1, ?_, h3⟩
    rw [h2]
    show (s.dn ++ [t]) ++ q = _
    simp
/-- Deals one behind the other: all are done, by each of the rules alike; and no two ran at once. -/
theorem runs_serial {a b : Int} {q : List Int} (hq : q.Nodup) {R : VRules} (hR : R = validR ∨ R = snapR ∨ R = danR) : playV R (piecesH a b q) = playV validR (piecesH a b q) ∧ (playV R (piecesH a b q)).dn = q ∧ ∃ k, Ser k (playV R (piecesH a b q)) := by
  obtain ⟨k, h1, h2, h3⟩ := pieces_run (a := a) (b := b) hR q 0 vs00 ser0 hq (fun _ _ h => by cases h)
  exact ⟨h3, h2, k, h1⟩
theorem ser_apart {k : Nat} {s : VSt} (h : Ser k s) {x y : Dl} (hx : x ∈ s.ds) (hy : y ∈ s.ds) (hne : x.tx < y.tx) : atOnceD x y = false := by
  have h1 := h.ended x hx
  have h2 := h.ended y hy
  unfold atOnceD
  rcases pairwise_two h.apart x hx y hy (fun e => by rw [e] at hne; omega) with h3 | h3
  · rw [decide_eq_false (show ¬ x.ended < 0 by omega), decide_eq_false (show ¬ y.began < x.ended by omega)]; simp
  · rw [decide_eq_false (show ¬ y.ended < 0 by omega), decide_eq_false (show ¬ x.began < y.ended by omega)]; simp
end Go.Proofs.YtaaahfbcpgdoiaaGreatDoor


namespace Go.Proofs.YtaaahfbcpgdoiaaGreatDoor
open Go.RowKit

/-- Who wrote each item last, of deals in their order. -/
def lastOf (l : List Dl) : List Int := l.foldl (fun la d => setsL d.tx d.wrote la) [0, 0, 0, 0, 0, 0]
theorem lastOf_snoc (l : List Dl) (d : Dl) : lastOf (l ++ [d]) = setsL d.tx d.wrote (lastOf l) := by unfold lastOf; rw [List.foldl_append]; rfl
/-- A run that sees what was when deals began: its state, behind so many ops. -/
structure InvS (l : List HOp) (k : Nat) (s : VSt) : Prop where
  ok : VOk k s
  nodup : (s.ds.map (·.tx)).Nodup
  own : ∀ t, t ∉ s.ds.map (·.tx) → ownL (l.take k) t = []
  runs : ∀ d ∈ s.ds, Runs d.tx (fun i f => f = d.snap.getD (i.toNat - 1) 0) (ownL (l.take k) d.tx) d.seen d.wrote
  seen : ∀ d ∈ s.ds, ∀ x ∈ d.seen, x.tx = d.tx
  dnds : ∀ t ∈ s.dn, t ∈ s.ds.map (·.tx)
  dnN : s.dn.Nodup
  com : ∀ d ∈ s.ds, d.tx ∈ s.dn → ∃ j : Nat, d.ended = j ∧ j < k ∧ l[j]? = some ⟨d.tx, 3, 0⟩ ∧ d.began ≤ d.ended
  run : ∀ d ∈ s.ds, d.tx ∉ s.dn → d.ended = -1
  beg : ∀ d ∈ s.ds, ∃ b : Nat, d.began = b ∧ b < k ∧ ∃ o, l[b]? = some o ∧ o.tx = d.tx
  sorted : (doneD s).Pairwise fun a b => a.ended < b.ended
  last : s.last = lastOf (doneD s)
  snap : ∀ d ∈ s.ds, d.snap = lastOf ((doneD s).filter fun e => decide (e.ended < d.began))
  apart : ∀ d ∈ doneD s, ∀ e ∈ doneD s, d.tx ≠ e.tx → atOnceD d e = true → ∀ i ∈ d.wrote, i ∉ e.wrote
theorem invS0 (l : List HOp) : InvS l 0 vs00 :=
  ⟨vok00, List.nodup_nil, fun t _ => by rw [List.take_zero]; rfl, fun _ h => (by cases h), fun _ h => (by cases h), fun _ h => (by cases h), List.nodup_nil, fun _ h => (by cases h), fun _ h => (by cases h), fun _ h => (by cases h), .nil, rfl, fun _ h => (by cases h), fun _ h => (by cases h)⟩
theorem doneD_mem {s : VSt} (hn : (s.ds.map (·.tx)).Nodup) (hs : ∀ t ∈ s.dn, t ∈ s.ds.map (·.tx)) {d : Dl} (hd : d ∈ doneD s) : d ∈ s.ds ∧ d.tx ∈ s.dn := by
  obtain ⟨t, ht, e⟩ := List.mem_map.1 hd
  obtain ⟨x, hx, rfl⟩ := List.mem_map.1 (hs t ht)
  rw [dget_mem hn hx] at e
  cases e
  exact ⟨hx, ht⟩
theorem doneD_txs {s : VSt} (hn : (s.ds.map (·.tx)).Nodup) (hs : ∀ t ∈ s.dn, t ∈ s.ds.map (·.tx)) : (doneD s).map (·.tx) = s.dn := by
  unfold doneD
  rw [List.map_map]
  conv => rhs; rw [← List.map_id s.dn]
  refine List.map_congr_left fun t ht => ?_
  obtain ⟨x, hx, rfl⟩ := List.mem_map.1 (hs t ht)
  show ((dget s.ds x.tx).getD _).tx = _
  rw [dget_mem hn hx]; rfl
theorem since_false {b : Int} {l : List Dl} {p : Int → Bool} (h : sinceD b l p = false) : ∀ e ∈ l, e.ended > b → ∀ i ∈ e.wrote, p i = false := fun e he hb i hi => by
  have h1 := List.any_eq_false.1 h e he
  rw [Bool.and_eq_true, not_and] at h1
  have h2 := h1 (decide_eq_true hb)
  rw [Bool.not_eq_true, List.any_eq_false] at h2
  simpa using h2 i hi
theorem invS_step {R : VRules} (hsee : ∀ s d i, R.see s d i = d.snap.getD (i.toNat - 1) 0) (hlook : ∀ s d i, R.look s d i = s.looks) (hmay : ∀ s d, R.may s d = true → snapR.may s d = true)
    {l : List HOp} (hk : okH l) {k : Nat} {o : HOp} (ho : l[k]? = some o) {s : VSt} (I : InvS l k s) : InvS l (k + 1) (vstep R k o s) := by
  have hr := okH_right hk o (List.mem_of_getElem? ho)
  obtain ⟨t1, t2, w1, w4, h5, h6⟩ := rightB_get hr
  have hnd : o.tx ∉ s.dn := fun h => by
    obtain ⟨d, hd, hdt⟩ := List.mem_map.1 (I.dnds _ h)
    obtain ⟨j, e1, hj, hx, _⟩ := I.com d hd (by rw [hdt]; exact h)
    rw [hdt] at hx
    have := end_at hk ho j _ hx rfl (by show (3 : Int) ≤ 3; decide)
    omega
  have hok := vstep_ok (R := R) (fun s d i => by rw [hlook]; exact Nat.le_succ _) I.ok hr
  have hown : ∀ t, t ≠ o.tx → ownL (l.take (k + 1)) t = ownL (l.take k) t := fun t h => by rw [ownL_at ho, if_neg (fun e => h e.symm)]
  have hown1 : ownL (l.take (k + 1)) o.tx = ownL (l.take k) o.tx ++ [o] := by rw [ownL_at ho, if_pos rfl]
  obtain ⟨d1, d2, d3, d4⟩ := begD_ok (k := k) I.ok ⟨t1, t2⟩
  have hended : ∀ e ∈ doneD s, 0 ≤ e.ended ∧ e.ended < k := fun e he => by
    obtain ⟨h1, h2⟩ := doneD_mem I.nodup I.dnds he
    obtain ⟨j, e1, hj, _⟩ := I.com e h1 h2
    omega
  -- the deal of the op, as it is now
  have hbeg : (Runs o.tx (fun i f => f = (begD s k o.tx).snap.getD (i.toNat - 1) 0) (ownL (l.take k) o.tx) (begD s k o.tx).seen (begD s k o.tx).wrote ∧ ∀ x ∈ (begD s k o.tx).seen, x.tx = o.tx) ∧
      (begD s k o.tx).ended = -1 ∧ (∃ b : Nat, (begD s k o.tx).began = b ∧ b < k + 1 ∧ ∃ x, l[b]? = some x ∧ x.tx = o.tx) ∧ (begD s k o.tx).snap = lastOf ((doneD s).filter fun e => decide (e.ended < (begD s k o.tx).began)) := by
    cases hd : dget s.ds o.tx with
    | none =>
      obtain ⟨e1, e2⟩ := openS_new (k := k) hd
      rw [e1, I.own _ e2]
      refine ⟨⟨.nil, fun _ h => by cases h⟩, rfl, ⟨k, rfl, by omega, o, ho, rfl⟩, ?_⟩
      show s.last = _
      rw [I.last, List.filter_eq_self.2 fun e he => decide_eq_true (by exact (hended e he).2)]
    | some d =>
      obtain ⟨_, e2⟩ := openS_has (k := k) hd
      obtain ⟨g1, g2⟩ := dget_tx hd
      rw [e2]
      have h1 := I.runs d g2
      have h2 := I.seen d g2
      have h3 := I.beg d g2
      rw [g1] at h1 h2 h3
      obtain ⟨b, b1, b2, b3⟩ := h3
      exact ⟨⟨h1, h2⟩, I.run d g2 (by rw [g1]; exact hnd), ⟨b, b1, by omega, b3⟩, I.snap d g2⟩
  obtain ⟨⟨hrun, hseen⟩, hen, hbg, hsn⟩ := hbeg
  have hmem : ∀ (d' : Dl), d'.tx = o.tx → ∀ e ∈ dput (openS s k o.tx).ds d', e = d' ∨ (e ∈ s.ds ∧ e.tx ≠ o.tx) := fun d' hdt e he => by
    rw [openS_dput _ _ _ _ hdt] at he
    rcases mem_dputN I.nodup he with h | ⟨h, h2⟩
    · exact .inl h
    · exact .inr ⟨h, by rw [← hdt]; exact h2⟩
  have hnodup : ∀ (d' : Dl), d'.tx = o.tx → ((dput (openS s k o.tx).ds d').map (·.tx)).Nodup := fun d' hdt => by
    rw [openS_dput _ _ _ _ hdt]; exact dput_nodup I.nodup _
  have htxs : ∀ (d' : Dl), d'.tx = o.tx → ∀ t, t ∈ (dput (openS s k o.tx).ds d').map (·.tx) ↔ t ∈ s.ds.map (·.tx) ∨ t = o.tx := fun d' hdt t => by
    rw [openS_dput _ _ _ _ hdt, dput_txs, hdt]
    split
    · rename_i h
      exact ⟨.inl, fun h2 => h2.elim id fun e => by rw [e]; exact h⟩
    · rw [List.mem_append, List.mem_singleton]
  have hput : ∀ (d' : Dl) (s' : VSt), d'.tx = o.tx → d'.began = (begD s k o.tx).began → d'.ended = (begD s k o.tx).ended → d'.snap = (begD s k o.tx).snap → s'.ds = dput (openS s k o.tx).ds d' → s'.dn = s.dn → s'.last = s.last → VOk (k + 1) s' →
      Runs o.tx (fun i f => f = (begD s k o.tx).snap.getD (i.toNat - 1) 0) (ownL (l.take k) o.tx ++ [o]) d'.seen d'.wrote → (∀ x ∈ d'.seen, x.tx = o.tx) → InvS l (k + 1) s' := by
    intro d' s' hdt g1 g2 g3 e1 e2 e3 hok' hR hS
    have hdone : doneD s' = doneD s := doneD_put (s := s) (d := d') (by rw [hdt]; exact hnd) s' (by rw [e1, openS_dput _ _ _ _ hdt]) e2
    refine ⟨hok', by rw [e1]; exact hnodup d' hdt, ?_, ?_, ?_, ?_, by rw [e2]; exact I.dnN, ?_, ?_, ?_, by rw [hdone]; exact I.sorted, by rw [e3, hdone]; exact I.last, ?_, by rw [hdone]; exact I.apart⟩
    · intro t ht
      rw [e1, htxs d' hdt] at ht
      rw [hown t (fun e => ht (.inr e))]
      exact I.own t (fun e => ht (.inl e))
    · intro d hd
      rw [e1] at hd
      rcases hmem d' hdt d hd with rfl | ⟨hd2, hne⟩
      · rw [hdt, hown1, g3]; exact hR
      · rw [hown _ hne]; exact I.runs d hd2
    · intro d hd x hx
      rw [e1] at hd
      rcases hmem d' hdt d hd with rfl | ⟨hd2, hne⟩
      · rw [hdt]; exact hS x hx
      · exact I.seen d hd2 x hx
    · intro t ht
      rw [e2] at ht
      rw [e1, htxs d' hdt]
      exact .inl (I.dnds t ht)
    · intro d hd hdn
      rw [e1] at hd
      rw [e2] at hdn
      rcases hmem d' hdt d hd with rfl | ⟨hd2, hne⟩
      · rw [hdt] at hdn; exact absurd hdn hnd
      · obtain ⟨j, h1, h2, h3⟩ := I.com d hd2 hdn
        exact ⟨j, h1, by omega, h3⟩
    · intro d hd hdn
      rw [e1] at hd
      rw [e2] at hdn
      rcases hmem d' hdt d hd with rfl | ⟨hd2, hne⟩
      · rw [g2]; exact hen
      · exact I.run d hd2 hdn
    · intro d hd
      rw [e1] at hd
      rcases hmem d' hdt d hd with rfl | ⟨hd2, hne⟩
      · rw [g1, hdt]; exact hbg
      · obtain ⟨b, h1, h2, h3⟩ := I.beg d hd2
        exact ⟨b, h1, by omega, h3⟩
    · intro d hd
      rw [e1] at hd
      rw [hdone]
      rcases hmem d' hdt d hd with rfl | ⟨hd2, hne⟩
      · rw [g1, g3]; exact hsn
      · exact I.snap d hd2
  revert hok
  unfold vstep
  simp only [hsee, hlook]
  split
  · rename_i h1
    have hoe : o = ⟨o.tx, 1, o.item⟩ := by
      obtain ⟨a, b, c⟩ := o
      simp only at h1 ⊢
      rw [h1]
    split
    · rename_i hin
      intro hok
      refine hput { begD s k o.tx with seen := (begD s k o.tx).seen ++ [⟨o.tx, o.item, o.tx⟩] } _ d4 rfl rfl rfl rfl rfl rfl hok ?_ (fun x hx => ?_)
      · have := Runs.own o.item hrun hin
        rw [← hoe] at this
        exact this
      · rcases List.mem_append.1 hx with hx | hx
        · exact hseen x hx
        · rw [List.mem_singleton.1 hx]
    · rename_i hin
      intro hok
      refine hput { begD s k o.tx with seen := (begD s k o.tx).seen ++ [⟨o.tx, o.item, (begD s k o.tx).snap.getD (o.item.toNat - 1) 0⟩] } _ d4 rfl rfl rfl rfl rfl rfl hok ?_ (fun x hx => ?_)
      · have := Runs.other o.item ((begD s k o.tx).snap.getD (o.item.toNat - 1) 0) hrun hin rfl
        rw [← hoe] at this
        exact this
      · rcases List.mem_append.1 hx with hx | hx
        · exact hseen x hx
        · rw [List.mem_singleton.1 hx]
  · split
    · rename_i h1 h2
      have hoe : o = ⟨o.tx, 2, o.item⟩ := by
        obtain ⟨a, b, c⟩ := o
        simp only at h2 ⊢
        rw [h2]
      intro hok
      refine hput { begD s k o.tx with wrote := (begD s k o.tx).wrote ++ [o.item] } _ d4 rfl rfl rfl rfl rfl rfl hok ?_ hseen
      have := Runs.write o.item hrun
      rw [← hoe] at this
      exact this
    · rename_i h1 h2
      have hskip : Runs o.tx (fun i f => f = (begD s k o.tx).snap.getD (i.toNat - 1) 0) (ownL (l.take k) o.tx ++ [o]) (begD s k o.tx).seen (begD s k o.tx).wrote := Runs.skip o.what o.item hrun (by omega)
      have hsame : VOk (k + 1) (openS s k o.tx) → InvS l (k + 1) (openS s k o.tx) := fun hok =>
        hput (begD s k o.tx) _ d4 rfl rfl rfl (by rw [openS_dput _ _ _ _ d4]; rfl) rfl rfl hok hskip hseen
      split
      · rename_i h3
        split
        · rename_i hm
          intro hok
          have hm2 := hmay _ _ hm
          change (!sinceD (begD s k o.tx).began (doneD (openS s k o.tx)) fun i => decide (i ∈ (begD s k o.tx).wrote)) = true at hm2
          rw [doneD_put (s := s) (d := begD s k o.tx) (by rw [d4]; exact hnd) (openS s k o.tx) rfl rfl] at hm2
          have hm3 := since_false (by simpa using hm2)
          have hdn2 : ∀ t, t ∈ s.dn ++ [o.tx] ↔ t ∈ s.dn ∨ t = o.tx := fun t => by rw [List.mem_append, List.mem_singleton]
          have hdt : ({ begD s k o.tx with ended := (k : Int) } : Dl).tx = o.tx := d4
          have e1 : doneD { openS s k o.tx with ds := dput (openS s k o.tx).ds { begD s k o.tx with ended := (k : Int) }, dn := (openS s k o.tx).dn ++ [o.tx], last := setsL o.tx (begD s k o.tx).wrote (openS s k o.tx).last } = doneD s ++ [{ begD s k o.tx with ended := (k : Int) }] := by
            unfold doneD
            show (s.dn ++ [o.tx]).map _ = _
            rw [List.map_append]
            congr 1
            · refine List.map_congr_left fun t ht => ?_
              rw [openS_dput _ _ _ _ hdt, dget_put, if_neg (fun e => hnd (by rw [← hdt, e]; exact ht))]
            · show [(dget (dput (openS s k o.tx).ds { begD s k o.tx with ended := (k : Int) }) o.tx).getD _] = [_]
              rw [dget_put, if_pos hdt]; rfl
          have hbk : (begD s k o.tx).began ≤ k := by
            obtain ⟨b, b1, b2, _⟩ := hbg
            omega
          have hnew : ∀ d ∈ doneD s, atOnceD d { begD s k o.tx with ended := (k : Int) } = true → d.ended > (begD s k o.tx).began := fun d hd h => by
            have h0 := hended d hd
            unfold atOnceD at h
            simp only [Bool.and_eq_true, Bool.or_eq_true, decide_eq_true_eq] at h
            omega
          have hsym : ∀ a b : Dl, atOnceD a b = atOnceD b a := fun a b => by unfold atOnceD; rw [Bool.and_comm]
          refine ⟨hok, hnodup _ hdt, ?_, ?_, ?_, ?_, ?_, ?_, ?_, ?_, ?_, ?_, ?_, ?_⟩
          · intro t ht
            have ht2 : ¬(t ∈ s.ds.map (·.tx) ∨ t = o.tx) := fun h => ht ((htxs _ hdt t).2 h)
            rw [hown t (fun e => ht2 (.inr e))]
            exact I.own t (fun e => ht2 (.inl e))
          · intro d hd
            rcases hmem _ hdt d hd with rfl | ⟨hd2, hne⟩
            · rw [hdt, hown1]; exact hskip
            · rw [hown _ hne]; exact I.runs d hd2
          · intro d hd x hx
            rcases hmem _ hdt d hd with rfl | ⟨hd2, hne⟩
            · rw [hdt]; exact hseen x hx
            · exact I.seen d hd2 x hx
          · intro t ht
            refine (htxs _ hdt t).2 ?_
            rcases (hdn2 t).1 ht with h | h
            · exact .inl (I.dnds t h)
            · exact .inr h
          · exact List.nodup_append.2 ⟨I.dnN, by simp, fun x hx y hy e => hnd (by rw [List.mem_singleton] at hy; rw [← hy, ← e]; exact hx)⟩
          · intro d hd hdn
            rcases hmem _ hdt d hd with rfl | ⟨hd2, hne⟩
            · refine ⟨k, rfl, by omega, ?_, hbk⟩
              rw [hdt, ho]; exact congrArg some (rightB_end hr h3)
            · obtain ⟨j, h1, h2, h3⟩ := I.com d hd2 (((hdn2 _).1 hdn).resolve_right hne)
              exact ⟨j, h1, by omega, h3⟩
          · intro d hd hdn
            rcases hmem _ hdt d hd with rfl | ⟨hd2, hne⟩
            · exact absurd ((hdn2 _).2 (.inr hdt)) hdn
            · exact I.run d hd2 (fun h => hdn ((hdn2 _).2 (.inl h)))
          · intro d hd
            rcases hmem _ hdt d hd with rfl | ⟨hd2, hne⟩
            · rw [hdt]; exact hbg
            · obtain ⟨b, h1, h2, h3⟩ := I.beg d hd2
              exact ⟨b, h1, by omega, h3⟩
          · rw [e1, List.pairwise_append]
            refine ⟨I.sorted, by simp, fun x hx y hy => ?_⟩
            rw [List.mem_singleton.1 hy]
            exact (hended x hx).2
          · rw [e1, lastOf_snoc, ← I.last]
            show setsL o.tx _ _ = setsL (begD s k o.tx).tx _ _
            rw [d4]; rfl
          · have hflt : ∀ b : Int, b ≤ k → (doneD s ++ [{ begD s k o.tx with ended := (k : Int) }]).filter (fun e => decide (e.ended < b)) = (doneD s).filter (fun e => decide (e.ended < b)) := fun b hb => by
              have h0 : [({ begD s k o.tx with ended := (k : Int) } : Dl)].filter (fun e => decide (e.ended < b)) = [] := List.filter_eq_nil_iff.2 fun x hx => by
                rw [List.mem_singleton.1 hx]
                simp only [decide_eq_true_eq]; omega
              rw [List.filter_append, h0, List.append_nil]
            intro d hd
            rw [e1]
            rcases hmem _ hdt d hd with rfl | ⟨hd2, hne⟩
            · rw [hflt _ hbk]; exact hsn
            · obtain ⟨b, h1, h2, _⟩ := I.beg d hd2
              rw [hflt _ (by omega)]; exact I.snap d hd2
          · intro d hd e he hne hat i hi
            rw [e1] at hd he
            rcases List.mem_append.1 hd with hd | hd <;> rcases List.mem_append.1 he with he | he
            · exact I.apart d hd e he hne hat i hi
            · rw [List.mem_singleton.1 he] at hat ⊢
              have := hm3 d hd (hnew d hd hat) i hi
              simpa using this
            · rw [List.mem_singleton.1 hd] at hat hi
              rw [hsym] at hat
              intro hi2
              have := hm3 e he (hnew e he hat) i hi2
              simp at this
              exact this hi
            · rw [List.mem_singleton.1 hd, List.mem_singleton.1 he] at hne
              exact absurd rfl hne
        · exact hsame
      · exact hsame
theorem invS_run {R : VRules} (hsee : ∀ s d i, R.see s d i = d.snap.getD (i.toNat - 1) 0) (hlook : ∀ s d i, R.look s d i = s.looks) (hmay : ∀ s d, R.may s d = true → snapR.may s d = true) {l : List HOp} (hk : okH l) :
    ∀ (r : List HOp) (k : Nat) (s : VSt), r = l.drop k → k ≤ l.length → InvS l k s → InvS l l.length (vrun R k r s)
  | [], k, s, hr, hkl, I => by
    have hl : l.length = k := by
      have := congrArg List.length hr
      rw [List.length_nil, List.length_drop] at this; omega
    rw [hl]; exact I
  | o :: t, k, s, hr, hkl, I => by
    have ho : l[k]? = some o := by
      have := congrArg (·[0]?) hr
      rw [List.getElem?_drop] at this
      simpa using this.symm
    have ht : t = l.drop (k + 1) := by
      have h := drop_at ho
      rw [← hr] at h
      exact (List.cons.inj h).2
    exact invS_run hsee hlook hmay hk t (k + 1) _ ht (List.getElem?_eq_some_iff.1 ho).1 (invS_step hsee hlook hmay hk ho I)
theorem snap_inv {l : List HOp} (hk : okH l) : InvS l l.length (playV snapR l) := invS_run (fun _ _ _ => rfl) (fun _ _ _ => rfl) (fun _ _ h => h) hk l 0 vs00 rfl (Nat.zero_le _) (invS0 l)
theorem dan_inv {l : List HOp} (hk : okH l) : InvS l l.length (playV danR l) := invS_run (fun _ _ _ => rfl) (fun _ _ _ => rfl) (fun _ _ h => (Bool.and_eq_true _ _ ▸ h).1) hk l 0 vs00 rfl (Nat.zero_le _) (invS0 l)
end Go.Proofs.YtaaahfbcpgdoiaaGreatDoor


namespace Go.Proofs.YtaaahfbcpgdoiaaGreatDoor
open Go.RowKit

/-- Nobody is between. -/
def NoPiv (ds : List Dl) : Prop := ∀ a ∈ ds, ∀ b ∈ ds, ∀ c ∈ ds, antiD a b = true → antiD b c = true → False
theorem noPiv_pivs {ds : List Dl} (hn : (ds.map (·.tx)).Nodup) (h : NoPiv ds) : pivsD ds = [] := by
  unfold pivsD
  rw [List.filter_eq_nil_iff]
  intro t _ hp
  unfold pivB at hp
  rw [Bool.and_eq_true, List.any_eq_true, List.any_eq_true] at hp
  obtain ⟨⟨a, ha, h1⟩, b, hb, h2⟩ := hp
  rw [List.any_eq_true] at h1 h2
  obtain ⟨b', hb', h1⟩ := h1
  obtain ⟨c, hc, h2⟩ := h2
  simp only [Bool.and_eq_true, decide_eq_true_eq] at h1 h2
  have e : b' = b := by
    have g1 := dget_mem hn hb
    have g2 := dget_mem hn hb'
    rw [h1.2, ← h2.2, g1] at g2
    exact (Option.some.inj g2).symm
  rw [e] at h1
  exact h a ha b hb c hc h1.1 h2.1
theorem pivs_noPiv {ds : List Dl} (hr : ∀ d ∈ ds, 1 ≤ d.tx ∧ d.tx ≤ 6) (h : pivsD ds = []) : NoPiv ds := fun a ha b hb c hc h1 h2 => by
  have hb6 := hr b hb
  have hm : b.tx ∈ ([1, 2, 3, 4, 5, 6] : List Int) := by
    simp only [List.mem_cons, List.not_mem_nil, or_false]; omega
  unfold pivsD at h
  rw [List.filter_eq_nil_iff] at h
  apply h b.tx hm
  unfold pivB
  rw [Bool.and_eq_true, List.any_eq_true, List.any_eq_true]
  exact ⟨⟨a, ha, List.any_eq_true.2 ⟨b, hb, by rw [h1]; simp⟩⟩, b, hb, List.any_eq_true.2 ⟨c, hc, by rw [h2]; simp⟩⟩
theorem NoPiv.sub {ds es : List Dl} (h : NoPiv ds) (hs : ∀ d ∈ es, d ∈ ds) : NoPiv es := fun a ha b hb c hc => h a (hs a ha) b (hs b hb) c (hs c hc)
/-- Whether a deal runs still, or ends now, it is at once with the same ones. -/
theorem anti_now {e d : Dl} {k : Nat} (hd : d.ended = -1) (h1 : e.began ≤ e.ended) (h2 : e.ended < k) : antiD e { d with ended := (k : Int) } = antiD e d ∧ antiD { d with ended := (k : Int) } e = antiD d e := by
  have h3 : ¬ ((k : Int) < 0) := by omega
  unfold antiD atOnceD
  rw [hd]
  simp only [show decide ((-1 : Int) < 0) = true by decide, Bool.true_or, Bool.true_and, Bool.and_true, decide_eq_false h3, Bool.false_or, show decide (e.began < (k : Int)) = true from decide_eq_true (by omega)]
  trivial
theorem noPiv_now {l : List Dl} {d : Dl} {k : Nat} (hd : d.ended = -1) (hl : ∀ e ∈ l, e.began ≤ e.ended ∧ e.ended < k) : NoPiv (l ++ [d]) ↔ NoPiv (l ++ [{ d with ended := (k : Int) }]) := by
  have key : ∀ (x y : Dl), (∀ e ∈ l, antiD e y = antiD e x ∧ antiD y e = antiD x e) → NoPiv (l ++ [x]) → NoPiv (l ++ [y]) := by
    intro x y hxy h a ha b hb c hc h1 h2
    have hm : ∀ e ∈ l, e ∈ l ++ [x] := fun e he => List.mem_append_left _ he
    have hx : x ∈ l ++ [x] := List.mem_append_right _ List.mem_cons_self
    rcases List.mem_append.1 hb with hb | hb
    · rcases List.mem_append.1 ha with ha | ha <;> rcases List.mem_append.1 hc with hc | hc
      · exact h a (hm a ha) b (hm b hb) c (hm c hc) h1 h2
      · rw [List.mem_singleton.1 hc, (hxy b hb).1] at h2
        exact h a (hm a ha) b (hm b hb) x hx h1 h2
      · rw [List.mem_singleton.1 ha, (hxy b hb).2] at h1
        exact h x hx b (hm b hb) c (hm c hc) h1 h2
      · rw [List.mem_singleton.1 hc, (hxy b hb).1] at h2
        rw [List.mem_singleton.1 ha, (hxy b hb).2] at h1
        exact h x hx b (hm b hb) x hx h1 h2
    · rw [List.mem_singleton.1 hb] at h1 h2
      rcases List.mem_append.1 ha with ha | ha
      · rcases List.mem_append.1 hc with hc | hc
        · rw [(hxy a ha).1] at h1
          rw [(hxy c hc).2] at h2
          exact h a (hm a ha) x hx c (hm c hc) h1 h2
        · rw [List.mem_singleton.1 hc, anti_self] at h2; cases h2
      · rw [List.mem_singleton.1 ha, anti_self] at h1; cases h1
  constructor
  · exact key d _ fun e he => anti_now hd (hl e he).1 (hl e he).2
  · exact key _ d fun e he => ⟨(anti_now hd (hl e he).1 (hl e he).2).1.symm, (anti_now hd (hl e he).1 (hl e he).2).2.symm⟩
/-- What is done, behind a step. -/
theorem invS_done {R : VRules} {l : List HOp} (hk : okH l) {k : Nat} {o : HOp} (ho : l[k]? = some o) {s : VSt} (I : InvS l k s) :
    ((¬(o.what = 3 ∧ R.may (openS s k o.tx) (begD s k o.tx) = true)) ∧ doneD (vstep R k o s) = doneD s) ∨ (o.what = 3 ∧ R.may (openS s k o.tx) (begD s k o.tx) = true ∧ doneD (vstep R k o s) = doneD s ++ [{ begD s k o.tx with ended := (k : Int) }]) := by
  have hnd : o.tx ∉ s.dn := fun h => by
    obtain ⟨d, hd, hdt⟩ := List.mem_map.1 (I.dnds _ h)
    obtain ⟨j, e1, hj, hx, _⟩ := I.com d hd (by rw [hdt]; exact h)
    rw [hdt] at hx
    have := end_at hk ho j _ hx rfl (by show (3 : Int) ≤ 3; decide)
    omega
  have d4 := begD_tx s k o.tx
  have hput : ∀ (d' : Dl) (s' : VSt), d'.tx = o.tx → s'.ds = dput (openS s k o.tx).ds d' → s'.dn = s.dn → doneD s' = doneD s := fun d' s' hdt e1 e2 =>
    doneD_put (s := s) (d := d') (by rw [hdt]; exact hnd) s' (by rw [e1, openS_dput _ _ _ _ hdt]) e2
  by_cases h : o.what = 3 ∧ R.may (openS s k o.tx) (begD s k o.tx) = true
  · refine .inr ⟨h.1, h.2, ?_⟩
    unfold vstep
    simp only
    rw [if_neg (by omega), if_neg (by omega), if_pos h.1, if_pos h.2]
    have hdt : ({ begD s k o.tx with ended := (k : Int) } : Dl).tx = o.tx := d4
    unfold doneD
    show (s.dn ++ [o.tx]).map _ = _
    rw [List.map_append]
    congr 1
    · refine List.map_congr_left fun t ht => ?_
      rw [openS_dput _ _ _ _ hdt, dget_put, if_neg (fun e => hnd (by rw [← hdt, e]; exact ht))]
    · show [(dget (dput (openS s k o.tx).ds { begD s k o.tx with ended := (k : Int) }) o.tx).getD _] = [_]
      rw [dget_put, if_pos hdt]; rfl
  · refine .inl ⟨h, ?_⟩
    unfold vstep
    simp only
    split
    · split
      · exact hput { begD s k o.tx with seen := (begD s k o.tx).seen ++ [⟨o.tx, o.item, o.tx⟩] } _ d4 rfl rfl
      · exact hput { begD s k o.tx with seen := (begD s k o.tx).seen ++ [⟨o.tx, o.item, R.see (openS s k o.tx) (begD s k o.tx) o.item⟩] } _ d4 rfl rfl
    · split
      · exact hput { begD s k o.tx with wrote := (begD s k o.tx).wrote ++ [o.item] } _ d4 rfl rfl
      · split
        · rename_i h3
          rw [if_neg (fun e => h ⟨h3, e⟩)]
          exact hput (begD s k o.tx) _ d4 (by rw [openS_dput _ _ _ _ d4]; rfl) rfl
        · exact hput (begD s k o.tx) _ d4 (by rw [openS_dput _ _ _ _ d4]; rfl) rfl
/-- Rules that see what was when deals began. -/
structure SnapLike (R : VRules) : Prop where
  see : ∀ s d i, R.see s d i = d.snap.getD (i.toNat - 1) 0
  look : ∀ s d i, R.look s d i = s.looks
  may : ∀ s d, R.may s d = true → snapR.may s d = true
theorem snapLike_snap : SnapLike snapR := ⟨fun _ _ _ => rfl, fun _ _ _ => rfl, fun _ _ h => h⟩
theorem snapLike_dan : SnapLike danR := ⟨fun _ _ _ => rfl, fun _ _ _ => rfl, fun _ _ h => (Bool.and_eq_true _ _ ▸ h).1⟩
theorem at_drop {l r : List HOp} {o : HOp} {k : Nat} (hr : o :: r = l.drop k) : l[k]? = some o ∧ r = l.drop (k + 1) ∧ k < l.length := by
  have ho : l[k]? = some o := by
    have := congrArg (·[0]?) hr
    rw [List.getElem?_drop] at this
    simpa using this.symm
  refine ⟨ho, ?_, (List.getElem?_eq_some_iff.1 ho).1⟩
  have h := drop_at ho
  rw [← hr] at h
  exact (List.cons.inj h).2
theorem vdone_sub {R : VRules} (hR : SnapLike R) {l : List HOp} (hk : okH l) : ∀ (r : List HOp) (k : Nat) (s : VSt), r = l.drop k → InvS l k s → ∀ d ∈ doneD s, d ∈ doneD (vrun R k r s)
  | [], _, _, _, _, d, hd => hd
  | o :: r, k, s, hr, I, d, hd => by
    obtain ⟨ho, hr2, _⟩ := at_drop hr
    refine vdone_sub hR hk r (k + 1) _ hr2 (invS_step hR.see hR.look hR.may hk ho I) d ?_
    rcases invS_done (R := R) hk ho I with ⟨_, e⟩ | ⟨_, _, e⟩
    · rw [e]; exact hd
    · rw [e]; exact List.mem_append_left _ hd
theorem InvS.done_at {l : List HOp} {k : Nat} {s : VSt} (I : InvS l k s) {e : Dl} (he : e ∈ doneD s) : e ∈ s.ds ∧ e.tx ∈ s.dn ∧ 0 ≤ e.began ∧ e.began ≤ e.ended ∧ e.ended < k ∧ 1 ≤ e.tx ∧ e.tx ≤ 6 := by
  obtain ⟨h1, h2⟩ := doneD_mem I.nodup I.dnds he
  obtain ⟨j, e1, hj, _, h3⟩ := I.com e h1 h2
  have h4 := (I.ok.deals e h1).began
  have h5 := (I.ok.deals e h1).tx
  exact ⟨h1, h2, h4.1, h3, by omega, h5⟩
theorem InvS.done_nodup {l : List HOp} {k : Nat} {s : VSt} (I : InvS l k s) : ((doneD s).map (·.tx)).Nodup := by rw [doneD_txs I.nodup I.dnds]; exact I.dnN
theorem begD_ended {l : List HOp} {k : Nat} {s : VSt} (I : InvS l k s) {tx : Int} (hnd : tx ∉ s.dn) : (begD s k tx).ended = -1 := by
  cases hd : dget s.ds tx with
  | none => rw [(openS_new (k := k) hd).1]
  | some d =>
    rw [(openS_has (k := k) hd).2]
    exact I.run d (dget_tx hd).2 (by rw [(dget_tx hd).1]; exact hnd)
theorem InvS.hnd {l : List HOp} (hk : okH l) {k : Nat} {o : HOp} (ho : l[k]? = some o) {s : VSt} (I : InvS l k s) : o.tx ∉ s.dn := fun h => by
  obtain ⟨d, hd, hdt⟩ := List.mem_map.1 (I.dnds _ h)
  obtain ⟨j, e1, hj, hx, _⟩ := I.com d hd (by rw [hdt]; exact h)
  rw [hdt] at hx
  have := end_at hk ho j _ hx rfl (by show (3 : Int) ≤ 3; decide)
  omega
theorem doneD_open {l : List HOp} (hk : okH l) {k : Nat} {o : HOp} (ho : l[k]? = some o) {s : VSt} (I : InvS l k s) : doneD (openS s k o.tx) = doneD s :=
  doneD_put (s := s) (d := begD s k o.tx) (by rw [begD_tx]; exact I.hnd hk ho) (openS s k o.tx) rfl rfl
/-- If nobody is between at the end, nobody was; all goes as by what was when deals began. -/
theorem dan_eq_run {l : List HOp} (hk : okH l) : ∀ (r : List HOp) (k : Nat) (s : VSt), r = l.drop k → InvS l k s → NoPiv (doneD (vrun snapR k r s)) → vrun danR k r s = vrun snapR k r s
  | [], _, _, _, _, _ => rfl
  | o :: r, k, s, hr, I, hp => by
    obtain ⟨ho, hr2, _⟩ := at_drop hr
    have I2 := invS_step snapLike_snap.see snapLike_snap.look snapLike_snap.may hk ho I
    have hstep : vstep danR k o s = vstep snapR k o s := by
      rcases invS_done (R := snapR) hk ho I with ⟨h, _⟩ | ⟨h3, hm, e⟩
      · have hm2 : o.what = 3 → danR.may (openS s k o.tx) (begD s k o.tx) = false ∧ snapR.may (openS s k o.tx) (begD s k o.tx) = false := fun h3 => by
          have h1 : snapR.may (openS s k o.tx) (begD s k o.tx) = false := by
            cases hb : snapR.may (openS s k o.tx) (begD s k o.tx)
            · rfl
            · exact absurd ⟨h3, hb⟩ h
          exact ⟨by show (snapR.may _ _ && _) = false; rw [h1]; rfl, h1⟩
        unfold vstep
        simp only
        by_cases h3 : o.what = 3
        · rw [(hm2 h3).1, (hm2 h3).2]; rfl
        · rw [if_neg h3, if_neg h3]; rfl
      · have hd : danR.may (openS s k o.tx) (begD s k o.tx) = true := by
          show (snapR.may _ _ && (pivsD (doneD (openS s k o.tx) ++ [begD s k o.tx])).isEmpty) = true
          rw [hm, doneD_open hk ho I]
          have hsub := vdone_sub snapLike_snap hk r (k + 1) _ hr2 I2
          rw [e] at hsub
          have hN : NoPiv (doneD s ++ [{ begD s k o.tx with ended := (k : Int) }]) := NoPiv.sub hp hsub
          have hN2 := (noPiv_now (begD_ended I (I.hnd hk ho)) fun e he => ⟨(I.done_at he).2.2.2.1, (I.done_at he).2.2.2.2.1⟩).2 hN
          rw [noPiv_pivs (by
            have h := I2.done_nodup
            rw [e, List.map_append] at h
            rw [List.map_append]
            exact h) hN2]
          rfl
        unfold vstep
        simp only
        rw [if_neg (by omega), if_neg (by omega), if_pos h3, if_pos hd, if_neg (by omega), if_neg (by omega), if_pos h3, if_pos hm]
    show vrun danR (k + 1) r (vstep danR k o s) = vrun snapR (k + 1) r (vstep snapR k o s)
    rw [hstep]
    exact dan_eq_run hk r (k + 1) _ hr2 I2 hp
theorem dan_eq_snap {l : List HOp} (hk : okH l) (h : NoPiv (doneD (playV snapR l))) : playV danR l = playV snapR l := dan_eq_run hk l 0 vs00 rfl (invS0 l) h
/-- Where nobody may be between nobody is. -/
theorem dan_nopiv_run {l : List HOp} (hk : okH l) : ∀ (r : List HOp) (k : Nat) (s : VSt), r = l.drop k → InvS l k s → NoPiv (doneD s) → NoPiv (doneD (vrun danR k r s))
  | [], _, _, _, _, h => h
  | o :: r, k, s, hr, I, h => by
    obtain ⟨ho, hr2, _⟩ := at_drop hr
    have I2 := invS_step snapLike_dan.see snapLike_dan.look snapLike_dan.may hk ho I
    refine dan_nopiv_run hk r (k + 1) _ hr2 I2 ?_
    rcases invS_done (R := danR) hk ho I with ⟨_, e⟩ | ⟨h3, hm, e⟩
    · rw [e]; exact h
    · rw [e]
      change (snapR.may _ _ && (pivsD (doneD (openS s k o.tx) ++ [begD s k o.tx])).isEmpty) = true at hm
      rw [Bool.and_eq_true, List.isEmpty_iff, doneD_open hk ho I] at hm
      have htx := (begD_ok (k := k) I.ok (tx := o.tx) ⟨(rightB_get (okH_right hk o (List.mem_of_getElem? ho))).1, (rightB_get (okH_right hk o (List.mem_of_getElem? ho))).2.1⟩).1.tx
      refine (noPiv_now (begD_ended I (I.hnd hk ho)) fun e he => ⟨(I.done_at he).2.2.2.1, (I.done_at he).2.2.2.2.1⟩).1 (pivs_noPiv (fun d hd => ?_) hm.2)
      rcases List.mem_append.1 hd with hd | hd
      · exact (I.done_at hd).2.2.2.2.2
      · rw [List.mem_singleton.1 hd]; exact htx
theorem dan_nopiv {l : List HOp} (hk : okH l) : NoPiv (doneD (playV danR l)) := dan_nopiv_run hk l 0 vs00 rfl (invS0 l) fun _ h => by cases h
/-- What a deal wrote it asked to write. -/
theorem runs_wrote {tx : Int} {P : Int → Int → Prop} {ops seen : List HOp} {wrote : List Int} (h : Runs tx P ops seen wrote) (i : Int) : i ∈ wrote ↔ (⟨tx, 2, i⟩ : HOp) ∈ ops := by
  induction h with
  | nil => simp
  | own j _ hi ih => rw [ih]; simp
  | other j f _ hi hP ih => rw [ih]; simp
  | write j _ ih => rw [List.mem_append, List.mem_append, ih]; simp
  | skip w j _ hw ih =>
    rw [ih, List.mem_append]
    refine ⟨.inl, fun h => h.resolve_right fun h => ?_⟩
    rw [List.mem_singleton] at h
    injection h with _ h _
    omega
theorem InvS.wrote {l : List HOp} {s : VSt} (I : InvS l l.length s) {d : Dl} (hd : d ∈ s.ds) (i : Int) : i ∈ d.wrote ↔ (⟨d.tx, 2, i⟩ : HOp) ∈ l := by
  have h := I.runs d hd
  rw [List.take_length] at h
  rw [runs_wrote h i]
  unfold ownL
  simp
/-- Where one alone writes nobody is between. -/
theorem dan_one {l : List HOp} (hk : okH l) {T : Int} (h : ∀ o ∈ l, o.what = 2 → o.tx = T) : NoPiv (doneD (playV snapR l)) := fun a ha b hb c hc h1 h2 => by
  have I := snap_inv hk
  have key : ∀ x ∈ doneD (playV snapR l), ∀ y : Dl, antiD y x = true → x.tx = T := fun x hx y hy => by
    unfold antiD at hy
    rw [Bool.and_eq_true, List.any_eq_true] at hy
    obtain ⟨_, i, hi, _⟩ := hy
    exact h _ ((I.wrote (I.done_at hx).1 i).1 hi) rfl
  have hb1 := key b hb a h1
  have hc1 := key c hc b h2
  unfold antiD at h2
  rw [hb1, hc1] at h2
  simp at h2
end Go.Proofs.YtaaahfbcpgdoiaaGreatDoor


namespace Go.Proofs.YtaaahfbcpgdoiaaGreatDoor
open Go.RowKit

theorem snocRec {α : Type} {motive : List α → Prop} (nil : motive []) (snoc : ∀ (l : List α) (a : α), motive l → motive (l ++ [a])) (l : List α) : motive l := by
  have key : ∀ r : List α, motive r.reverse := fun r => by
    induction r with
    | nil => exact nil
    | cons a r ih => rw [List.reverse_cons]; exact snoc _ _ ih
  have := key l.reverse
  rwa [List.reverse_reverse] at this
theorem pw_ext {α : Type} {r : α → α → Prop} (irr : ∀ a, ¬ r a a) (asym : ∀ a b, r a b → ¬ r b a) : ∀ {l m : List α}, l.Pairwise r → m.Pairwise r → (∀ x, x ∈ l ↔ x ∈ m) → l = m
  | [], [], _, _, _ => rfl
  | [], b :: m, _, _, h => by have := (h b).2 List.mem_cons_self; cases this
  | a :: l, [], _, _, h => by have := (h a).1 List.mem_cons_self; cases this
  | a :: l, b :: m, hl, hm, h => by
    rw [List.pairwise_cons] at hl hm
    have hab : a = b := by
      rcases List.mem_cons.1 ((h a).1 List.mem_cons_self) with e | e
      · exact e
      · rcases List.mem_cons.1 ((h b).2 List.mem_cons_self) with e2 | e2
        · exact e2.symm
        · exact absurd (hm.1 a e) (asym _ _ (hl.1 b e2))
    subst hab
    congr 1
    refine pw_ext irr asym hl.2 hm.2 fun x => ⟨fun hx => ?_, fun hx => ?_⟩
    · rcases List.mem_cons.1 ((h x).1 (List.mem_cons_of_mem _ hx)) with e | e
      · rw [e] at hx; exact absurd (hl.1 _ hx) (irr _)
      · exact e
    · rcases List.mem_cons.1 ((h x).2 (List.mem_cons_of_mem _ hx)) with e | e
      · rw [e] at hx; exact absurd (hm.1 _ hx) (irr _)
      · exact e
/-- Who wrote an item last, of deals in their order: that of those that wrote it alone. -/
theorem lastOf_len (l : List Dl) : (lastOf l).length = 6 := by
  induction l using snocRec with
  | nil => rfl
  | snoc l d ih => rw [lastOf_snoc, setsL_len]; exact ih
theorem lastOf_get {i : Int} (hi : 1 ≤ i) (hi2 : i ≤ 6) (l : List Dl) : (∀ d ∈ l, ∀ j ∈ d.wrote, 1 ≤ j ∧ j ≤ 6) → (lastOf l).getD (i.toNat - 1) 0 = (((l.filter fun d => decide (i ∈ d.wrote)).getLast?).map (·.tx)).getD 0 := by
  induction l using snocRec with
  | nil =>
    intro _
    have : i.toNat - 1 = 0 ∨ i.toNat - 1 = 1 ∨ i.toNat - 1 = 2 ∨ i.toNat - 1 = 3 ∨ i.toNat - 1 = 4 ∨ i.toNat - 1 = 5 := by omega
    rcases this with e | e | e | e | e | e <;> rw [e] <;> rfl
  | snoc l d ih =>
    intro h
    rw [lastOf_snoc, setsL_get (lastOf_len l) (h d (by simp)) hi hi2, List.filter_append]
    by_cases hm : i ∈ d.wrote
    · rw [if_pos hm]
      have : [d].filter (fun d => decide (i ∈ d.wrote)) = [d] := by simp [hm]
      rw [this, List.getLast?_append]; simp
    · rw [if_neg hm, ih fun x hx => h x (List.mem_append_left _ hx)]
      have : [d].filter (fun d => decide (i ∈ d.wrote)) = [] := by simp [hm]
      rw [this, List.append_nil]
theorem getD_ext {a b : List Int} (ha : a.length = 6) (hb : b.length = 6) (h : ∀ i : Int, 1 ≤ i → i ≤ 6 → a.getD (i.toNat - 1) 0 = b.getD (i.toNat - 1) 0) : a = b := by
  refine List.ext_getElem (by omega) fun j h1 h2 => ?_
  have := h (j + 1) (by omega) (by omega)
  rw [show ((j : Int) + 1).toNat - 1 = j by omega, List.getD_eq_getElem?_getD, List.getD_eq_getElem?_getD, List.getElem?_eq_getElem h1, List.getElem?_eq_getElem h2] at this
  exact this
/-- Deals one behind the other, each of which saw what those ahead wrote last. -/
theorem byD_lastOf {l : List HOp} (hk : okH l) (q : List Dl) : (∀ d ∈ q, ∀ j ∈ d.wrote, 1 ≤ j ∧ j ≤ 6) → (∀ (p : List Dl) (d : Dl) (r : List Dl), q = p ++ d :: r → Runs d.tx (fun i f => f = (lastOf p).getD (i.toNat - 1) 0) (ownL l d.tx) d.seen d.wrote) → byD l q [0, 0, 0, 0, 0, 0] = some (lastOf q) := by
  induction q using snocRec with
  | nil => intro _ _; rfl
  | snoc q d ih =>
    intro hw hr
    have h1 := ih (fun x hx => hw x (List.mem_append_left _ hx)) fun p x r e => hr p x (r ++ [d]) (by rw [e]; simp)
    have h2 := hr q d [] (by simp)
    have hsim := Runs.sim (la := lastOf q) (lastOf_len q) h2 (fun x hx hw2 => (rightB_get (okH_right hk x (List.mem_filter.1 hx).1)).2.2.2.2.1 hw2) (hw d (by simp))
    have h3 := byD_snoc l d q _ _ h1 (by rw [hsim])
    rw [h3, hsim, lastOf_snoc]
/-- Unlike deals begin and end at unlike ops. -/
theorem InvS.times {l : List HOp} {k : Nat} {s : VSt} (I : InvS l k s) {a b : Dl} (ha : a ∈ doneD s) (hb : b ∈ doneD s) (hne : a.tx ≠ b.tx) : a.began ≠ b.began ∧ a.began ≠ b.ended ∧ a.ended ≠ b.began ∧ a.ended ≠ b.ended := by
  obtain ⟨a1, a2, _⟩ := I.done_at ha
  obtain ⟨b1, b2, _⟩ := I.done_at hb
  obtain ⟨j, e1, _, x1, _⟩ := I.com a a1 a2
  obtain ⟨j2, e2, _, x2, _⟩ := I.com b b1 b2
  obtain ⟨i, f1, _, o1, y1, z1⟩ := I.beg a a1
  obtain ⟨i2, f2, _, o2, y2, z2⟩ := I.beg b b1
  have key : ∀ (m : Nat) (x y : HOp), l[m]? = some x → l[m]? = some y → x.tx = a.tx → y.tx = b.tx → False := fun m x y h1 h2 h3 h4 => by
    rw [h1] at h2
    cases h2
    exact hne (h3.symm.trans h4)
  refine ⟨fun e => ?_, fun e => ?_, fun e => ?_, fun e => ?_⟩
  · have : i = i2 := by omega
    subst this
    exact key i _ _ y1 y2 z1 z2
  · have : i = j2 := by omega
    subst this
    exact key i _ _ y1 x2 z1 rfl
  · have : j = i2 := by omega
    subst this
    exact key j _ _ x1 y2 rfl z2
  · have : j = j2 := by omega
    subst this
    exact key j _ _ x1 x2 rfl rfl
/-- By when a deal goes: when it began, if an edge leads from it; else when it ended. -/
def keyD (ds : List Dl) (d : Dl) : Int := if ds.any (antiD d) then d.began else d.ended
section
variable {l : List HOp} {k : Nat} {s : VSt}
theorem keyD_le (I : InvS l k s) {ds : List Dl} {d : Dl} (hd : d ∈ doneD s) : d.began ≤ keyD ds d ∧ keyD ds d ≤ d.ended := by
  have h := I.done_at hd
  unfold keyD
  split
  · exact ⟨Int.le_refl _, h.2.2.2.1⟩
  · exact ⟨h.2.2.2.1, Int.le_refl _⟩
theorem keyD_ne (I : InvS l k s) {ds : List Dl} {a b : Dl} (ha : a ∈ doneD s) (hb : b ∈ doneD s) (hne : a.tx ≠ b.tx) : keyD ds a ≠ keyD ds b := by
  obtain ⟨h1, h2, h3, h4⟩ := I.times ha hb hne
  unfold keyD
  split <;> split <;> assumption
theorem keyD_time (I : InvS l k s) {ds : List Dl} {a b : Dl} (ha : a ∈ doneD s) (hb : b ∈ doneD s) (h : a.ended < b.began) : keyD ds a < keyD ds b := by
  have h1 := (keyD_le I (ds := ds) ha).2
  have h2 := (keyD_le I (ds := ds) hb).1
  omega
theorem keyD_anti (I : InvS l k s) (hp : NoPiv (doneD s)) {a b : Dl} (ha : a ∈ doneD s) (hb : b ∈ doneD s) (h : antiD a b = true) : keyD (doneD s) a < keyD (doneD s) b := by
  have h1 : keyD (doneD s) a = a.began := by
    unfold keyD
    rw [if_pos (List.any_eq_true.2 ⟨b, hb, h⟩)]
  have h2 : keyD (doneD s) b = b.ended := by
    unfold keyD
    rw [if_neg (fun e => by
      obtain ⟨c, hc, h3⟩ := List.any_eq_true.1 e
      exact hp a ha b hb c hc h h3)]
  rw [h1, h2]
  unfold antiD atOnceD at h
  have hb0 := I.done_at hb
  simp only [Bool.and_eq_true, Bool.or_eq_true, decide_eq_true_eq] at h
  omega
/-- Of two that wrote an item one ended ahead of the other's beginning; so they go by their ends. -/
theorem writers_apart (I : InvS l k s) {a b : Dl} (ha : a ∈ doneD s) (hb : b ∈ doneD s) (hne : a.tx ≠ b.tx) {i : Int} (hi : i ∈ a.wrote) (hi2 : i ∈ b.wrote) : a.ended < b.began ∨ b.ended < a.began := by
  have h1 := I.done_at ha
  have h2 := I.done_at hb
  obtain ⟨_, t2, t3, _⟩ := I.times ha hb hne
  rcases Int.lt_or_le a.ended b.began with h | h
  · exact .inl h
  · rcases Int.lt_or_le b.ended a.began with h' | h'
    · exact .inr h'
    · exfalso
      refine I.apart a ha b hb hne ?_ i hi hi2
      unfold atOnceD
      rw [decide_eq_true (show a.began < b.ended by omega), decide_eq_true (show b.began < a.ended by omega)]
      simp
theorem same_deal (I : InvS l k s) {a b : Dl} (ha : a ∈ doneD s) (hb : b ∈ doneD s) (h : a.tx = b.tx) : a = b := by
  have g1 := dget_mem I.nodup (I.done_at ha).1
  have g2 := dget_mem I.nodup (I.done_at hb).1
  rw [h, g2] at g1
  exact (Option.some.inj g1).symm
theorem getLast_mem {α : Type} {l : List α} {x : α} (h : l.getLast? = some x) : x ∈ l := by
  obtain ⟨l', rfl⟩ := List.getLast?_eq_some_iff.1 h
  simp
/-- A deal's snapshot never names itself. -/
theorem snap_ne (I : InvS l k s) {d : Dl} (hd : d ∈ doneD s) {i : Int} (hi : 1 ≤ i) (hi2 : i ≤ 6) : d.snap.getD (i.toNat - 1) 0 ≠ d.tx := by
  have h := I.done_at hd
  rw [I.snap d h.1, lastOf_get hi hi2 _ (fun x hx j hj => (I.ok.deals x (I.done_at (List.mem_filter.1 hx).1).1).items j hj)]
  cases hg : (((doneD s).filter fun e => decide (e.ended < d.began)).filter fun d => decide (i ∈ d.wrote)).getLast? with
  | none => show (0 : Int) ≠ _; have := h.2.2.2.2.2; omega
  | some x =>
    show x.tx ≠ d.tx
    have hx := List.mem_filter.1 (List.mem_filter.1 (getLast_mem hg)).1
    intro e
    have e2 := same_deal I hx.1 hd e
    rw [e2] at hx
    have h2 := of_decide_eq_true hx.2
    omega
end
/-- FEKETE: where nobody is between there is an order by which all goes as if one behind the other. -/
theorem fekete {l : List HOp} (hk : okH l) {s : VSt} (I : InvS l l.length s) (hp : NoPiv (doneD s)) : ∃ q : List Dl, q.Perm (doneD s) ∧ byD l q [0, 0, 0, 0, 0, 0] = some s.last := by
  let le : Dl → Dl → Bool := fun a b => decide (keyD (doneD s) a ≤ keyD (doneD s) b)
  have hperm : ((doneD s).mergeSort le).Perm (doneD s) := List.mergeSort_perm _ _
  have hle : ((doneD s).mergeSort le).Pairwise (fun a b => le a b = true) := List.pairwise_mergeSort (le := le) (fun a b c h1 h2 => by
    have h1 := of_decide_eq_true h1
    have h2 := of_decide_eq_true h2
    exact decide_eq_true (by omega)) (fun a b => by
    show (decide _ || decide _) = true
    rw [Bool.or_eq_true, decide_eq_true_eq, decide_eq_true_eq]; omega) (doneD s)
  generalize hq : (doneD s).mergeSort le = q at *
  have hmem : ∀ x, x ∈ q ↔ x ∈ doneD s := fun x => hperm.mem_iff
  have hnq : (q.map (·.tx)).Nodup := (hperm.map _).nodup_iff.2 I.done_nodup
  have hne : q.Pairwise fun a b => a.tx ≠ b.tx := List.pairwise_map.1 hnq
  have hlt : q.Pairwise fun a b => keyD (doneD s) a < keyD (doneD s) b := by
    have h2 := hle.and hne
    refine List.Pairwise.imp_of_mem (fun {a b} ha hb h => ?_) h2
    have h1 := of_decide_eq_true h.1
    have h3 := keyD_ne I (ds := doneD s) ((hmem a).1 ha) ((hmem b).1 hb) h.2
    omega
  have hitems : ∀ d ∈ doneD s, ∀ j ∈ d.wrote, 1 ≤ j ∧ j ≤ 6 := fun d hd => (I.ok.deals d (I.done_at hd).1).items
  -- writers of one item go by their ends
  have hwr : ∀ (i : Int) (p : List Dl), (∀ x ∈ p, x ∈ doneD s) → p.Pairwise (fun a b => keyD (doneD s) a < keyD (doneD s) b) → (p.filter fun d => decide (i ∈ d.wrote)).Pairwise fun a b => a.ended < b.ended := fun i p hps hpp => by
    refine List.Pairwise.imp_of_mem (fun {a b} ha hb h => ?_) (hpp.filter _)
    obtain ⟨ha1, ha2⟩ := List.mem_filter.1 ha
    obtain ⟨hb1, hb2⟩ := List.mem_filter.1 hb
    have ha3 := hps a ha1
    have hb3 := hps b hb1
    have hne : a.tx ≠ b.tx := fun e => by
      rw [same_deal I ha3 hb3 e] at h; omega
    rcases writers_apart I ha3 hb3 hne (of_decide_eq_true ha2) (of_decide_eq_true hb2) with h2 | h2
    · have := (I.done_at hb3).2.2.2.1; omega
    · have := keyD_time I (ds := doneD s) hb3 ha3 h2
      omega
  have hend : ∀ (i : Int) (p : List Dl), (∀ x ∈ p, x ∈ doneD s) → p.Pairwise (fun a b : Dl => a.ended < b.ended) → (p.filter fun d => decide (i ∈ d.wrote)).Pairwise fun a b => a.ended < b.ended := fun i p _ hpp => hpp.filter _
  refine ⟨q, hperm, ?_⟩
  have hlast : lastOf q = s.last := by
    rw [I.last]
    refine getD_ext (lastOf_len _) (lastOf_len _) fun i hi hi2 => ?_
    rw [lastOf_get hi hi2 _ fun d hd => hitems d ((hmem d).1 hd), lastOf_get hi hi2 _ hitems]
    have e : (q.filter fun d => decide (i ∈ d.wrote)) = (doneD s).filter fun d => decide (i ∈ d.wrote) := by
      refine pw_ext (r := fun a b : Dl => a.ended < b.ended) (fun a => by omega) (fun a b h => by omega) (hwr i q (fun x hx => (hmem x).1 hx) hlt) (hend i _ (fun _ h => h) I.sorted) fun x => ?_
      rw [List.mem_filter, List.mem_filter, hmem]
    rw [e]
  rw [← hlast]
  refine byD_lastOf hk q (fun d hd => hitems d ((hmem d).1 hd)) fun p d r e => ?_
  have hdq : d ∈ q := by rw [e]; simp
  have hd := (hmem d).1 hdq
  have hds := (I.done_at hd).1
  have hp1 : ∀ x ∈ p, x ∈ doneD s := fun x hx => (hmem x).1 (by rw [e]; simp [hx])
  have hpw := hlt
  rw [e, List.pairwise_append, List.pairwise_cons] at hpw
  have hpm : ∀ x, x ∈ p ↔ x ∈ doneD s ∧ keyD (doneD s) x < keyD (doneD s) d := fun x => by
    refine ⟨fun hx => ⟨hp1 x hx, hpw.2.2 x hx d List.mem_cons_self⟩, fun ⟨hx, hlt⟩ => ?_⟩
    have := (hmem x).2 hx
    rw [e] at this
    rcases List.mem_append.1 this with h | h
    · exact h
    · rcases List.mem_cons.1 h with h | h
      · rw [h] at hlt; omega
      · have := hpw.2.1.1 x h; omega
  have hr := I.runs d hds
  rw [List.take_length] at hr
  have hseen : ∀ x ∈ d.seen, 1 ≤ x.what ∧ x.what ≤ 6 := fun x hx => by
    have key : ∀ {ops seen : List HOp} {wrote : List Int} {P : Int → Int → Prop}, Runs d.tx P ops seen wrote → ∀ x ∈ seen, (⟨d.tx, 1, x.what⟩ : HOp) ∈ ops := by
      intro ops seen wrote P h
      induction h with
      | nil => intro x hx; cases hx
      | own j _ hi ih =>
        intro x hx
        rcases List.mem_append.1 hx with hx | hx
        · exact List.mem_append_left _ (ih x hx)
        · rw [List.mem_singleton.1 hx]; simp
      | other j f _ hi hP ih =>
        intro x hx
        rcases List.mem_append.1 hx with hx | hx
        · exact List.mem_append_left _ (ih x hx)
        · rw [List.mem_singleton.1 hx]; simp
      | write j _ ih => intro x hx; exact List.mem_append_left _ (ih x hx)
      | skip w j _ hw ih => intro x hx; exact List.mem_append_left _ (ih x hx)
    have hm := key hr x hx
    exact (rightB_get (okH_right hk _ (List.mem_filter.1 hm).1)).2.2.2.2.1 (by show (1 : Int) < 3; decide)
  refine hr.mono fun i f hm hf => ?_
  have hi := hseen _ hm
  simp only at hi
  rw [hf, I.snap d hds, lastOf_get hi.1 hi.2 _ (fun x hx => hitems x (List.mem_filter.1 hx).1), lastOf_get hi.1 hi.2 _ (fun x hx => hitems x (hp1 x hx))]
  have hread : readD d i = true := by
    unfold readD
    refine List.any_eq_true.2 ⟨_, hm, ?_⟩
    simp only [decide_true, Bool.true_and, Bool.not_eq_true', decide_eq_false_iff_not]
    rw [hf]; exact snap_ne I hd hi.1 hi.2
  have e2 : ((doneD s).filter fun e => decide (e.ended < d.began)).filter (fun d => decide (i ∈ d.wrote)) = p.filter fun d => decide (i ∈ d.wrote) := by
    refine pw_ext (r := fun a b : Dl => a.ended < b.ended) (fun a => by omega) (fun a b h => by omega) ((I.sorted.filter _).filter _) (hwr i p hp1 hpw.1) fun x => ?_
    rw [List.mem_filter, List.mem_filter, List.mem_filter, hpm]
    constructor
    · rintro ⟨⟨h1, h2⟩, h3⟩
      exact ⟨⟨h1, keyD_time I h1 hd (of_decide_eq_true h2)⟩, h3⟩
    · rintro ⟨⟨h1, h2⟩, h3⟩
      refine ⟨⟨h1, decide_eq_true ?_⟩, h3⟩
      have hne : x.tx ≠ d.tx := fun e => by
        rw [same_deal I h1 hd e] at h2; omega
      obtain ⟨t1, t2, t3, t4⟩ := I.times h1 hd hne
      rcases Int.lt_or_le x.ended d.began with h | h
      · exact h
      · exfalso
        rcases Int.lt_or_le d.ended x.began with h' | h'
        · have := keyD_time I (ds := doneD s) hd h1 h'
          omega
        · have ha : antiD d x = true := by
            unfold antiD atOnceD
            rw [decide_eq_false (fun e => hne e.symm), decide_eq_true (show d.began < x.ended by omega), decide_eq_true (show x.began < d.ended by omega), List.any_eq_true.2 ⟨i, of_decide_eq_true h3, hread⟩]
            simp
          have := keyD_anti I hp hd h1 ha
          omega
  rw [e2]
end Go.Proofs.YtaaahfbcpgdoiaaGreatDoor


namespace Go.Proofs.YtaaahfbcpgdoiaaGreatDoor
open Go.RowKit

/-- Of those of lesser numbers that wrote an item the greatest. -/
def whoV (done : List Dl) (item below : Int) : Int := done.foldl (fun f d => if decide (d.tx < below) && decide (item ∈ d.wrote) then max f d.tx else f) 0
/-- With versions: a look is (item, from, by). -/
def verR : VRules := ⟨fun s d i => whoV (doneD s) i d.tx, fun s d i => s.looks ++ [⟨i, whoV (doneD s) i d.tx, d.tx⟩], fun s d => !s.looks.any fun q => decide (q.tx ∈ d.wrote) && decide (q.item > d.tx) && decide (q.what < d.tx)⟩
theorem whoV_snoc (l : List Dl) (d : Dl) (item below : Int) : whoV (l ++ [d]) item below = if decide (d.tx < below) && decide (item ∈ d.wrote) then max (whoV l item below) d.tx else whoV l item below := by unfold whoV; rw [List.foldl_append]; rfl
theorem whoV_spec (l : List Dl) (item below : Int) : (∀ d ∈ l, 1 ≤ d.tx) → (∀ d ∈ l, d.tx < below → item ∈ d.wrote → d.tx ≤ whoV l item below) ∧ (whoV l item below = 0 ∨ ∃ d ∈ l, d.tx = whoV l item below ∧ d.tx < below ∧ item ∈ d.wrote) := by
  induction l using snocRec with
  | nil => intro _; exact ⟨fun _ h => (by cases h), .inl rfl⟩
  | snoc l d ih =>
    intro h
    obtain ⟨h1, h2⟩ := ih fun x hx => h x (List.mem_append_left _ hx)
    rw [whoV_snoc]
    by_cases hc : d.tx < below ∧ item ∈ d.wrote
    · rw [decide_eq_true hc.1, decide_eq_true hc.2, Bool.and_self, if_pos rfl]
      refine ⟨fun x hx hb hi => ?_, ?_⟩
      · rcases List.mem_append.1 hx with hx | hx
        · have := h1 x hx hb hi; omega
        · rw [List.mem_singleton.1 hx]; omega
      · by_cases hm : whoV l item below ≤ d.tx
        · exact .inr ⟨d, by simp, by omega, hc.1, hc.2⟩
        · rcases h2 with h2 | ⟨x, hx, h3, h4⟩
          · have := h d (by simp); omega
          · exact .inr ⟨x, by simp [hx], by omega, h4⟩
    · have : (decide (d.tx < below) && decide (item ∈ d.wrote)) = false := by
        rw [Bool.and_eq_false_iff, decide_eq_false_iff_not, decide_eq_false_iff_not]
        by_cases hb : d.tx < below
        · exact .inr fun e => hc ⟨hb, e⟩
        · exact .inl hb
      rw [this, if_neg (by simp)]
      refine ⟨fun x hx hb hi => ?_, ?_⟩
      · rcases List.mem_append.1 hx with hx | hx
        · exact h1 x hx hb hi
        · rw [List.mem_singleton.1 hx] at hb hi; exact absurd ⟨hb, hi⟩ hc
      · rcases h2 with h2 | ⟨x, hx, h3⟩
        · exact .inl h2
        · exact .inr ⟨x, by simp [hx], h3⟩
/-- What a look found is still the greatest number below. -/
structure LookOk (ds : List Dl) (q : HOp) : Prop where
  top : ∀ e ∈ ds, e.tx < q.item → q.tx ∈ e.wrote → e.tx ≤ q.what
  is : q.what = 0 ∨ ∃ e ∈ ds, e.tx = q.what ∧ e.tx < q.item ∧ q.tx ∈ e.wrote
/-- A run with versions: its state, behind so many ops. -/
structure InvM (l : List HOp) (k : Nat) (s : VSt) : Prop where
  ok : VOk k s
  nodup : (s.ds.map (·.tx)).Nodup
  own : ∀ t, t ∉ s.ds.map (·.tx) → ownL (l.take k) t = []
  runs : ∀ d ∈ s.ds, Runs d.tx (fun i f => (⟨i, f, d.tx⟩ : HOp) ∈ s.looks) (ownL (l.take k) d.tx) d.seen d.wrote
  seen : ∀ d ∈ s.ds, ∀ x ∈ d.seen, x.tx = d.tx
  dnds : ∀ t ∈ s.dn, t ∈ s.ds.map (·.tx)
  dnN : s.dn.Nodup
  com : ∀ t ∈ s.dn, ∃ j : Nat, j < k ∧ l[j]? = some ⟨t, 3, 0⟩
  looks : ∀ q ∈ s.looks, LookOk (doneD s) q
theorem invM0 (l : List HOp) : InvM l 0 vs00 :=
  ⟨vok00, List.nodup_nil, fun t _ => by rw [List.take_zero]; rfl, fun _ h => (by cases h), fun _ h => (by cases h), fun _ h => (by cases h), List.nodup_nil, fun _ h => (by cases h), fun _ h => (by cases h)⟩
theorem invM_step {l : List HOp} (hk : okH l) {k : Nat} {o : HOp} (ho : l[k]? = some o) {s : VSt} (I : InvM l k s) : InvM l (k + 1) (vstep verR k o s) := by
  have hr := okH_right hk o (List.mem_of_getElem? ho)
  obtain ⟨t1, t2, w1, w4, h5, h6⟩ := rightB_get hr
  have hnd : o.tx ∉ s.dn := fun h => by
    obtain ⟨j, hj, hx⟩ := I.com _ h
    have := end_at hk ho j _ hx rfl (by show (3 : Int) ≤ 3; decide)
    omega
  have hok := vstep_ok (R := verR) (fun s d i => by show (s.looks ++ [_]).length ≤ _; simp) I.ok hr
  have hown : ∀ t, t ≠ o.tx → ownL (l.take (k + 1)) t = ownL (l.take k) t := fun t h => by rw [ownL_at ho, if_neg (fun e => h e.symm)]
  have hown1 : ownL (l.take (k + 1)) o.tx = ownL (l.take k) o.tx ++ [o] := by rw [ownL_at ho, if_pos rfl]
  obtain ⟨d1, d2, d3, d4⟩ := begD_ok (k := k) I.ok ⟨t1, t2⟩
  have hbeg : Runs o.tx (fun i f => (⟨i, f, o.tx⟩ : HOp) ∈ s.looks) (ownL (l.take k) o.tx) (begD s k o.tx).seen (begD s k o.tx).wrote ∧ ∀ x ∈ (begD s k o.tx).seen, x.tx = o.tx := by
    cases hd : dget s.ds o.tx with
    | none =>
      obtain ⟨e1, e2⟩ := openS_new (k := k) hd
      rw [e1, I.own _ e2]
      exact ⟨.nil, fun _ h => by cases h⟩
    | some d =>
      obtain ⟨_, e2⟩ := openS_has (k := k) hd
      obtain ⟨g1, g2⟩ := dget_tx hd
      rw [e2]
      have h1 := I.runs d g2
      have h2 := I.seen d g2
      rw [g1] at h1 h2
      exact ⟨h1, h2⟩
  obtain ⟨hrun, hseen⟩ := hbeg
  have hmem : ∀ (d' : Dl), d'.tx = o.tx → ∀ e ∈ dput (openS s k o.tx).ds d', e = d' ∨ (e ∈ s.ds ∧ e.tx ≠ o.tx) := fun d' hdt e he => by
    rw [openS_dput _ _ _ _ hdt] at he
    rcases mem_dputN I.nodup he with h | ⟨h, h2⟩
    · exact .inl h
    · exact .inr ⟨h, by rw [← hdt]; exact h2⟩
  have hnodup : ∀ (d' : Dl), d'.tx = o.tx → ((dput (openS s k o.tx).ds d').map (·.tx)).Nodup := fun d' hdt => by
    rw [openS_dput _ _ _ _ hdt]; exact dput_nodup I.nodup _
  have htxs : ∀ (d' : Dl), d'.tx = o.tx → ∀ t, t ∈ (dput (openS s k o.tx).ds d').map (·.tx) ↔ t ∈ s.ds.map (·.tx) ∨ t = o.tx := fun d' hdt t => by
    rw [openS_dput _ _ _ _ hdt, dput_txs, hdt]
    split
    · rename_i h
      exact ⟨.inl, fun h2 => h2.elim id fun e => by rw [e]; exact h⟩
    · rw [List.mem_append, List.mem_singleton]
  have hcom : ∀ t ∈ s.dn, ∃ j : Nat, j < k + 1 ∧ l[j]? = some ⟨t, 3, 0⟩ := fun t h => by
    obtain ⟨j, hj, hx⟩ := I.com t h
    exact ⟨j, by omega, hx⟩
  have hopen : doneD (openS s k o.tx) = doneD s := doneD_put (s := s) (d := begD s k o.tx) (by rw [d4]; exact hnd) _ rfl rfl
  have hdtx : ∀ d ∈ doneD s, 1 ≤ d.tx := fun d hd => ((I.ok.deals d (doneD_mem I.nodup I.dnds hd).1).tx).1
  have hput : ∀ (d' : Dl) (s' : VSt), d'.tx = o.tx → s'.ds = dput (openS s k o.tx).ds d' → s'.dn = s.dn → VOk (k + 1) s' → (∀ q ∈ s.looks, q ∈ s'.looks) → (∀ q ∈ s'.looks, LookOk (doneD s) q) →
      Runs o.tx (fun i f => (⟨i, f, o.tx⟩ : HOp) ∈ s'.looks) (ownL (l.take k) o.tx ++ [o]) d'.seen d'.wrote → (∀ x ∈ d'.seen, x.tx = o.tx) → InvM l (k + 1) s' := by
    intro d' s' hdt e1 e2 hok' hq hq2 hR hS
    have hdone : doneD s' = doneD s := doneD_put (s := s) (d := d') (by rw [hdt]; exact hnd) s' (by rw [e1, openS_dput _ _ _ _ hdt]) e2
    refine ⟨hok', by rw [e1]; exact hnodup d' hdt, ?_, ?_, ?_, ?_, by rw [e2]; exact I.dnN, by rw [e2]; exact hcom, by rw [hdone]; exact hq2⟩
    · intro t ht
      rw [e1, htxs d' hdt] at ht
      rw [hown t (fun e => ht (.inr e))]
      exact I.own t (fun e => ht (.inl e))
    · intro d hd
      rw [e1] at hd
      rcases hmem d' hdt d hd with rfl | ⟨hd2, hne⟩
      · rw [hdt, hown1]; exact hR
      · rw [hown _ hne]; exact (I.runs d hd2).mono fun i f _ h => hq _ h
    · intro d hd x hx
      rw [e1] at hd
      rcases hmem d' hdt d hd with rfl | ⟨hd2, hne⟩
      · rw [hdt]; exact hS x hx
      · exact I.seen d hd2 x hx
    · intro t ht
      rw [e2] at ht
      rw [e1, htxs d' hdt]
      exact .inl (I.dnds t ht)
  revert hok
  unfold vstep
  simp only
  split
  · rename_i h1
    have hoe : o = ⟨o.tx, 1, o.item⟩ := by
      obtain ⟨a, b, c⟩ := o
      simp only at h1 ⊢
      rw [h1]
    split
    · rename_i hin
      intro hok
      refine hput { begD s k o.tx with seen := (begD s k o.tx).seen ++ [⟨o.tx, o.item, o.tx⟩] } _ d4 rfl rfl hok (fun _ h => h) I.looks ?_ (fun x hx => ?_)
      · have := Runs.own o.item hrun hin
        rw [← hoe] at this
        exact this
      · rcases List.mem_append.1 hx with hx | hx
        · exact hseen x hx
        · rw [List.mem_singleton.1 hx]
    · rename_i hin
      intro hok
      have hW : verR.see (openS s k o.tx) (begD s k o.tx) o.item = whoV (doneD s) o.item o.tx := by
        show whoV (doneD (openS s k o.tx)) o.item (begD s k o.tx).tx = _
        rw [hopen, d4]
      have hL : verR.look (openS s k o.tx) (begD s k o.tx) o.item = s.looks ++ [⟨o.item, whoV (doneD s) o.item o.tx, o.tx⟩] := by
        show s.looks ++ [⟨o.item, whoV (doneD (openS s k o.tx)) o.item (begD s k o.tx).tx, (begD s k o.tx).tx⟩] = _
        rw [hopen, d4]
      rw [hW, hL] at hok ⊢
      obtain ⟨v1, v2⟩ := whoV_spec (doneD s) o.item o.tx hdtx
      refine hput { begD s k o.tx with seen := (begD s k o.tx).seen ++ [⟨o.tx, o.item, whoV (doneD s) o.item o.tx⟩] } _ d4 rfl rfl hok (fun q h => List.mem_append_left _ h) (fun q hq => ?_) ?_ (fun x hx => ?_)
      · rcases List.mem_append.1 hq with hq | hq
        · exact I.looks q hq
        · rw [List.mem_singleton.1 hq]
          exact ⟨v1, v2⟩
      · have := Runs.other o.item (whoV (doneD s) o.item o.tx) (hrun.mono (P' := fun i f => (⟨i, f, o.tx⟩ : HOp) ∈ s.looks ++ [⟨o.item, whoV (doneD s) o.item o.tx, o.tx⟩]) fun i f _ h => List.mem_append_left _ h) hin (by simp)
        rw [← hoe] at this
        exact this
      · rcases List.mem_append.1 hx with hx | hx
        · exact hseen x hx
        · rw [List.mem_singleton.1 hx]
  · split
    · rename_i h1 h2
      have hoe : o = ⟨o.tx, 2, o.item⟩ := by
        obtain ⟨a, b, c⟩ := o
        simp only at h2 ⊢
        rw [h2]
      intro hok
      refine hput { begD s k o.tx with wrote := (begD s k o.tx).wrote ++ [o.item] } _ d4 rfl rfl hok (fun _ h => h) I.looks ?_ hseen
      have := Runs.write o.item hrun
      rw [← hoe] at this
      exact this
    · rename_i h1 h2
      have hskip : Runs o.tx (fun i f => (⟨i, f, o.tx⟩ : HOp) ∈ s.looks) (ownL (l.take k) o.tx ++ [o]) (begD s k o.tx).seen (begD s k o.tx).wrote := Runs.skip o.what o.item hrun (by omega)
      have hsame : VOk (k + 1) (openS s k o.tx) → InvM l (k + 1) (openS s k o.tx) := fun hok =>
        hput (begD s k o.tx) _ d4 (by rw [openS_dput _ _ _ _ d4]; rfl) rfl hok (fun _ h => h) I.looks hskip hseen
      split
      · rename_i h3
        split
        · rename_i hm
          intro hok
          have hm3 : ∀ q ∈ s.looks, q.tx ∈ (begD s k o.tx).wrote → o.tx < q.item → o.tx ≤ q.what := fun q hq h1 h2 => by
            change (!(openS s k o.tx).looks.any _) = true at hm
            rw [Bool.not_eq_true', List.any_eq_false] at hm
            have := hm q hq
            simp only [Bool.and_eq_true, decide_eq_true_eq, not_and, d4] at this
            have := this ⟨h1, h2⟩
            omega
          have hdn2 : ∀ t, t ∈ s.dn ++ [o.tx] ↔ t ∈ s.dn ∨ t = o.tx := fun t => by rw [List.mem_append, List.mem_singleton]
          have hdt : ({ begD s k o.tx with ended := (k : Int) } : Dl).tx = o.tx := d4
          have e1 : doneD { openS s k o.tx with ds := dput (openS s k o.tx).ds { begD s k o.tx with ended := (k : Int) }, dn := (openS s k o.tx).dn ++ [o.tx], last := setsL o.tx (begD s k o.tx).wrote (openS s k o.tx).last } = doneD s ++ [{ begD s k o.tx with ended := (k : Int) }] := by
            unfold doneD
            show (s.dn ++ [o.tx]).map _ = _
            rw [List.map_append]
            congr 1
            · refine List.map_congr_left fun t ht => ?_
              rw [openS_dput _ _ _ _ hdt, dget_put, if_neg (fun e => hnd (by rw [← hdt, e]; exact ht))]
            · show [(dget (dput (openS s k o.tx).ds { begD s k o.tx with ended := (k : Int) }) o.tx).getD _] = [_]
              rw [dget_put, if_pos hdt]; rfl
          refine ⟨hok, hnodup _ hdt, ?_, ?_, ?_, ?_, ?_, ?_, ?_⟩
          · intro t ht
            have ht2 : ¬(t ∈ s.ds.map (·.tx) ∨ t = o.tx) := fun h => ht ((htxs _ hdt t).2 h)
            rw [hown t (fun e => ht2 (.inr e))]
            exact I.own t (fun e => ht2 (.inl e))
          · intro d hd
            rcases hmem _ hdt d hd with rfl | ⟨hd2, hne⟩
            · rw [hdt, hown1]; exact hskip
            · rw [hown _ hne]; exact I.runs d hd2
          · intro d hd x hx
            rcases hmem _ hdt d hd with rfl | ⟨hd2, hne⟩
            · rw [hdt]; exact hseen x hx
            · exact I.seen d hd2 x hx
          · intro t ht
            refine (htxs _ hdt t).2 ?_
            rcases (hdn2 t).1 ht with h | h
            · exact .inl (I.dnds t h)
            · exact .inr h
          · exact List.nodup_append.2 ⟨I.dnN, by simp, fun x hx y hy e => hnd (by rw [List.mem_singleton] at hy; rw [← hy, ← e]; exact hx)⟩
          · intro t ht
            rcases (hdn2 t).1 ht with h | h
            · exact hcom t h
            · exact ⟨k, by omega, by rw [h, ho]; exact congrArg some (rightB_end hr h3)⟩
          · intro q hq
            rw [e1]
            obtain ⟨q1, q2⟩ := I.looks q hq
            refine ⟨fun e he h1 h2 => ?_, ?_⟩
            · rcases List.mem_append.1 he with he | he
              · exact q1 e he h1 h2
              · rw [List.mem_singleton.1 he] at h1 h2 ⊢
                rw [hdt] at h1 ⊢
                exact hm3 q hq h2 h1
            · rcases q2 with q2 | ⟨e, he, h⟩
              · exact .inl q2
              · exact .inr ⟨e, List.mem_append_left _ he, h⟩
        · exact hsame
      · exact hsame
theorem invM_run {l : List HOp} (hk : okH l) : ∀ (r : List HOp) (k : Nat) (s : VSt), r = l.drop k → k ≤ l.length → InvM l k s → InvM l l.length (vrun verR k r s)
  | [], k, s, hr, hkl, I => by
    have hl : l.length = k := by
      have := congrArg List.length hr
      rw [List.length_nil, List.length_drop] at this; omega
    rw [hl]; exact I
  | o :: t, k, s, hr, hkl, I => by
    obtain ⟨ho, ht, hlt⟩ := at_drop hr
    exact invM_run hk t (k + 1) _ ht hlt (invM_step hk ho I)
theorem ver_inv {l : List HOp} (hk : okH l) : InvM l l.length (playV verR l) := invM_run hk l 0 vs00 rfl (Nat.zero_le _) (invM0 l)
/-- By their numbers. -/
theorem ver_serial {l : List HOp} (hk : okH l) {q : List Dl} (hm : ∀ x, x ∈ q ↔ x ∈ doneD (playV verR l)) (hs : q.Pairwise fun a b => a.tx < b.tx) : byD l q [0, 0, 0, 0, 0, 0] = some (lastOf q) := by
  have I := ver_inv hk
  generalize playV verR l = s at *
  have hds : ∀ x ∈ q, x ∈ s.ds := fun x hx => (doneD_mem I.nodup I.dnds ((hm x).1 hx)).1
  have hitems : ∀ d ∈ q, ∀ j ∈ d.wrote, 1 ≤ j ∧ j ≤ 6 := fun d hd => (I.ok.deals d (hds d hd)).items
  refine byD_lastOf hk q hitems fun p d r e => ?_
  have hd : d ∈ q := by rw [e]; simp
  have hr := I.runs d (hds d hd)
  rw [List.take_length] at hr
  have hp1 : ∀ x ∈ p, x ∈ q := fun x hx => by rw [e]; simp [hx]
  rw [e, List.pairwise_append, List.pairwise_cons] at hs
  have hseen : ∀ {ops seen : List HOp} {wrote : List Int} {P : Int → Int → Prop}, Runs d.tx P ops seen wrote → ∀ x ∈ seen, (⟨d.tx, 1, x.what⟩ : HOp) ∈ ops := by
    intro ops seen wrote P h
    induction h with
    | nil => intro x hx; cases hx
    | own j _ hi ih =>
      intro x hx
      rcases List.mem_append.1 hx with hx | hx
      · exact List.mem_append_left _ (ih x hx)
      · rw [List.mem_singleton.1 hx]; simp
    | other j f _ hi hP ih =>
      intro x hx
      rcases List.mem_append.1 hx with hx | hx
      · exact List.mem_append_left _ (ih x hx)
      · rw [List.mem_singleton.1 hx]; simp
    | write j _ ih => intro x hx; exact List.mem_append_left _ (ih x hx)
    | skip w j _ hw ih => intro x hx; exact List.mem_append_left _ (ih x hx)
  refine hr.mono fun i f hx hf => ?_
  have hi := (rightB_get (okH_right hk _ (List.mem_filter.1 (hseen hr _ hx)).1)).2.2.2.2.1 (by show (1 : Int) < 3; decide)
  simp only at hi
  obtain ⟨q1, q2⟩ := I.looks _ hf
  simp only at q1 q2
  rw [lastOf_get hi.1 hi.2 _ fun x hx => hitems x (hp1 x hx)]
  have hpm : ∀ x ∈ q, x.tx < d.tx → x ∈ p := fun x hx hlt => by
    rw [e] at hx
    rcases List.mem_append.1 hx with h | h
    · exact h
    · rcases List.mem_cons.1 h with h | h
      · rw [h] at hlt; omega
      · have := hs.2.1.1 x h; omega
  cases hg : (p.filter fun d => decide (i ∈ d.wrote)).getLast? with
  | none =>
    show f = 0
    rcases q2 with q2 | ⟨x, hx, h1, h2, h3⟩
    · exact q2
    · have hxp := hpm x ((hm x).2 hx) h2
      rw [List.getLast?_eq_none_iff, List.filter_eq_nil_iff] at hg
      exact absurd (decide_eq_true h3) (hg x hxp)
  | some x =>
    show f = x.tx
    obtain ⟨l', hl'⟩ := List.getLast?_eq_some_iff.1 hg
    have hxm : x ∈ p.filter fun d => decide (i ∈ d.wrote) := by rw [hl']; simp
    obtain ⟨hx1, hx2⟩ := List.mem_filter.1 hxm
    have h1 := q1 x ((hm x).1 (hp1 x hx1)) (hs.2.2 x hx1 d List.mem_cons_self) (of_decide_eq_true hx2)
    rcases q2 with q2 | ⟨y, hy, g1, g2, g3⟩
    · have := ((I.ok.deals x (hds x (hp1 x hx1))).tx).1
      omega
    · have hyp := hpm y ((hm y).2 hy) g2
      have hym : y ∈ p.filter fun d => decide (i ∈ d.wrote) := List.mem_filter.2 ⟨hyp, decide_eq_true g3⟩
      have hpw := hs.1.filter (fun d => decide (i ∈ d.wrote))
      rw [hl', List.pairwise_append] at hpw
      rw [hl'] at hym
      rcases List.mem_append.1 hym with h | h
      · have := hpw.2.2 y h x List.mem_cons_self
        omega
      · rw [List.mem_singleton.1 h] at g1; exact g1.symm
theorem ver_may_now (s : VSt) {d : Dl} (h : d.wrote = []) : verR.may s d = true := by
  show (!s.looks.any _) = true
  rw [h]
  simp
theorem ver_reader {tx : Int} : ∀ (l : List HOp) (k : Nat) (s : VSt), NoW s tx → (∀ o ∈ l, o.tx = tx → o.what ≠ 2) → (∃ o ∈ l, o.tx = tx ∧ o.what = 3) → tx ∈ (vrun verR k l s).dn
  | [], _, _, _, _, h => by obtain ⟨_, h, _⟩ := h; cases h
  | o :: l, k, s, hs, hw, hc => by
    show tx ∈ (vrun verR (k + 1) l (vstep verR k o s)).dn
    by_cases h3 : o.tx = tx ∧ o.what = 3
    · obtain ⟨rfl, h3⟩ := h3
      exact vrun_dn l _ _ (vstep_commit h3 (ver_may_now _ (begD_now hs k)))
    · refine ver_reader l (k + 1) _ (vstep_now hs (hw o List.mem_cons_self)) (fun x hx => hw x (List.mem_cons_of_mem _ hx)) ?_
      obtain ⟨x, hx, h1, h2⟩ := hc
      rcases List.mem_cons.1 hx with rfl | hx
      · exact absurd ⟨h1, h2⟩ h3
      · exact ⟨x, hx, h1, h2⟩
end Go.Proofs.YtaaahfbcpgdoiaaGreatDoor
