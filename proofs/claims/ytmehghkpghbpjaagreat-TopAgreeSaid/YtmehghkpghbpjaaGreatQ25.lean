
/-
  PLAIN LAWS: it sees the same again; nobody sees what was not done; of two that ran at once no item is written by both.
  PLAIN LAWS: what was seen, deal by deal; who is done is right; as if one behind the other (valid).
  CONTRACTS of faces.ended, Open and its test.
  PLAIN LAW: by rising numbers all are done (versions).
-/
import Derived.Test.YtmehghkpghbpjaaGreatQ12
import Derived.Test.YtmehghkpghbpjaaGreatQ6
import Derived.Test.YtmehghkpghbpjaaGreatQ3
import Derived.Test.YtmehghkpghbpjaaGreatQ1
import Derived.BigQuiet
import Derived.Handy

namespace Go.Proofs.YtmehghkpghbpjaaGreat
open Go.RowKit

/-- All that was seen, of those that are done. -/
def seenOf (s : VSt) : List HOp := (doneD s).flatMap (·.seen)
/-- Of what a deal saw, not from itself, each item is from one alone. -/
theorem runs_same {tx : Int} {g : Int → Int} {ops seen : List HOp} {wrote : List Int} (h : Runs tx (fun i f => f = g i) ops seen wrote) : (∀ x ∈ seen, x.tx = tx) ∧ (∀ y ∈ seen, y.what ∉ wrote → y.item = g y.what) ∧ seen.Pairwise fun y x => y.what = x.what → x.item ≠ tx → y.item = x.item := by
  induction h with
  | nil => exact ⟨fun _ h => (by cases h), fun _ h => (by cases h), .nil⟩
  | own i _ hi ih =>
    refine ⟨fun x hx => ?_, fun y hy hn => ?_, ?_⟩
    · rcases List.mem_append.1 hx with hx | hx
      · exact ih.1 x hx
      · rw [List.mem_singleton.1 hx]
    · rcases List.mem_append.1 hy with hy | hy
      · exact ih.2.1 y hy hn
      · rw [List.mem_singleton.1 hy] at hn; exact absurd hi hn
    · rw [List.pairwise_append]
      refine ⟨ih.2.2, by simp, fun y _ x hx _ hne => ?_⟩
      rw [List.mem_singleton.1 hx] at hne; exact absurd rfl hne
  | other i f _ hi hP ih =>
    refine ⟨fun x hx => ?_, fun y hy hn => ?_, ?_⟩
    · rcases List.mem_append.1 hx with hx | hx
      · exact ih.1 x hx
      · rw [List.mem_singleton.1 hx]
    · rcases List.mem_append.1 hy with hy | hy
      · exact ih.2.1 y hy hn
      · rw [List.mem_singleton.1 hy]; exact hP
    · rw [List.pairwise_append]
      refine ⟨ih.2.2, by simp, fun y hy x hx he _ => ?_⟩
      rw [List.mem_singleton.1 hx] at he ⊢
      simp only at he
      rw [ih.2.1 y hy (by rw [he]; exact hi), he]; exact hP.symm
  | write i _ ih =>
    exact ⟨ih.1, fun y hy hn => ih.2.1 y hy fun h => hn (List.mem_append_left _ h), ih.2.2⟩
  | skip w i _ hw ih => exact ih
theorem snap_pairs {l : List HOp} {k : Nat} {s : VSt} (I : InvS l k s) : (seenOf s).Pairwise fun y x => y.tx = x.tx → y.what = x.what → x.item ≠ x.tx → y.item = x.item := by
  unfold seenOf
  have hnd := List.pairwise_map.1 I.done_nodup
  have key : ∀ (ds : List Dl), (∀ d ∈ ds, d ∈ doneD s) → ds.Pairwise (fun a b => a.tx ≠ b.tx) → (ds.flatMap (·.seen)).Pairwise fun y x => y.tx = x.tx → y.what = x.what → x.item ≠ x.tx → y.item = x.item := by
    intro ds
    induction ds with
    | nil => intro _ _; exact .nil
    | cons d ds ih =>
      intro hm hp
      rw [List.pairwise_cons] at hp
      rw [List.flatMap_cons, List.pairwise_append]
      have hr := runs_same (I.runs d (I.done_at (hm d List.mem_cons_self)).1)
      refine ⟨List.Pairwise.imp_of_mem (fun {y x} hy hx h ht hw hne => h hw (by rw [← hr.1 x hx]; exact hne)) hr.2.2, ih (fun x hx => hm x (List.mem_cons_of_mem _ hx)) hp.2, fun y hy x hx ht => ?_⟩
      obtain ⟨e, he, hx2⟩ := List.mem_flatMap.1 hx
      have h2 := I.seen e (I.done_at (hm e (List.mem_cons_of_mem _ he))).1 x hx2
      exact absurd ((hr.1 y hy).symm.trans (ht.trans h2)) (hp.1 e he)
  exact key _ (fun _ h => h) hnd
theorem lastOf_mem (l : List Dl) : ∀ x ∈ lastOf l, x = 0 ∨ x ∈ l.map (·.tx) := by
  induction l using snocRec with
  | nil => intro x hx; exact .inl (by simpa [lastOf] using hx)
  | snoc l d ih =>
    intro x hx
    rw [lastOf_snoc] at hx
    rw [List.map_append, List.mem_append]
    rcases setsL_mem hx with h | h
    · exact .inr (.inr (by simp [h]))
    · exact (ih x h).imp id .inl
/-- Nobody sees what was not done. -/
theorem snap_from {l : List HOp} {k : Nat} {s : VSt} (I : InvS l k s) : ∀ x ∈ seenOf s, x.item = 0 ∨ x.item ∈ s.dn := by
  intro x hx
  obtain ⟨d, hd, hx⟩ := List.mem_flatMap.1 hx
  have h := I.done_at hd
  have key : ∀ {ops seen : List HOp} {wrote : List Int}, Runs d.tx (fun i f => f = d.snap.getD (i.toNat - 1) 0) ops seen wrote → ∀ x ∈ seen, x.item = d.tx ∨ x.item = d.snap.getD (x.what.toNat - 1) 0 := by
    intro ops seen wrote hr
    induction hr with
    | nil => intro x hx; cases hx
    | own i _ hi ih =>
      intro x hx
      rcases List.mem_append.1 hx with hx | hx
      · exact ih x hx
      · rw [List.mem_singleton.1 hx]; exact .inl rfl
    | other i f _ hi hP ih =>
      intro x hx
      rcases List.mem_append.1 hx with hx | hx
      · exact ih x hx
      · rw [List.mem_singleton.1 hx]; exact .inr hP
    | write i _ ih => exact ih
    | skip w i _ hw ih => exact ih
  rcases key (I.runs d h.1) x hx with e | e
  · rw [e]; exact .inr h.2.1
  · rw [e]
    rcases getD_last (l := d.snap) (x.what.toNat - 1) with h2 | h2
    · exact .inl h2
    · rw [I.snap d h.1] at h2 ⊢
      rcases lastOf_mem _ _ h2 with h3 | h3
      · exact .inl h3
      · refine .inr ?_
        rw [← doneD_txs I.nodup I.dnds]
        obtain ⟨y, hy, e3⟩ := List.mem_map.1 h3
        exact List.mem_map.2 ⟨y, (List.mem_filter.1 hy).1, e3⟩
/-- Of two that ran at once no item is written by both. -/
theorem snap_apart {l : List HOp} {s : VSt} (I : InvS l l.length s) {a b : Dl} (ha : a ∈ doneD s) (hb : b ∈ doneD s) (hlt : a.tx < b.tx) (h : atOnceD a b = true) {i : Int} (h1 : (⟨a.tx, 2, i⟩ : HOp) ∈ l) (h2 : (⟨b.tx, 2, i⟩ : HOp) ∈ l) : False :=
  I.apart a ha b hb (by omega) h i ((I.wrote (I.done_at ha).1 i).2 h1) ((I.wrote (I.done_at hb).1 i).2 h2)
/-- Each that is done asked to commit. -/
theorem snap_com {l : List HOp} {k : Nat} {s : VSt} (I : InvS l k s) {t : Int} (ht : t ∈ s.dn) : (⟨t, 3, 0⟩ : HOp) ∈ l := by
  obtain ⟨d, hd, rfl⟩ := List.mem_map.1 (I.dnds t ht)
  obtain ⟨j, _, _, h, _⟩ := I.com d hd ht
  exact List.mem_of_getElem? h
end Go.Proofs.YtmehghkpghbpjaaGreat


namespace Go.Proofs.YtmehghkpghbpjaaGreat
open Go.RowKit

theorem flat_none : ∀ {ds : List Dl} {t : Int}, (∀ d ∈ ds, ∀ x ∈ d.seen, x.tx = d.tx) → t ∉ ds.map (·.tx) → ownL (ds.flatMap (·.seen)) t = []
  | [], _, _, _ => rfl
  | d :: ds, t, hs, hn => by
    rw [List.map_cons, List.mem_cons, not_or] at hn
    rw [List.flatMap_cons, ownL_append, flat_none (fun x hx => hs x (List.mem_cons_of_mem _ hx)) hn.2, List.append_nil]
    unfold ownL
    refine List.filter_eq_nil_iff.2 fun x hx => ?_
    rw [decide_eq_true_eq, hs d List.mem_cons_self x hx]
    exact fun e => hn.1 e.symm
theorem flat_own : ∀ {ds : List Dl}, (ds.map (·.tx)).Nodup → (∀ d ∈ ds, ∀ x ∈ d.seen, x.tx = d.tx) → ∀ d ∈ ds, ownL (ds.flatMap (·.seen)) d.tx = d.seen
  | [], _, _, _, h => by cases h
  | e :: ds, hn, hs, d, hd => by
    rw [List.map_cons, List.nodup_cons] at hn
    rw [List.flatMap_cons, ownL_append]
    have hself : ∀ y : Dl, (∀ x ∈ y.seen, x.tx = y.tx) → ownL y.seen y.tx = y.seen := fun y hy => List.filter_eq_self.2 fun x hx => by simpa using hy x hx
    rcases List.mem_cons.1 hd with rfl | hd
    · rw [hself d (hs d List.mem_cons_self), flat_none (fun x hx => hs x (List.mem_cons_of_mem _ hx)) hn.1, List.append_nil]
    · rw [flat_own hn.2 (fun x hx => hs x (List.mem_cons_of_mem _ hx)) d hd]
      have : ownL e.seen d.tx = [] := by
        unfold ownL
        refine List.filter_eq_nil_iff.2 fun x hx => ?_
        rw [decide_eq_true_eq, hs e List.mem_cons_self x hx]
        exact fun h => hn.1 (by rw [h]; exact List.mem_map.2 ⟨d, hd, rfl⟩)
      rw [this, List.nil_append]
theorem byL_of_byD {l seen : List HOp} : ∀ (q : List Dl) (la : List Int) {x : List Int}, (∀ d ∈ q, ownL seen d.tx = d.seen) → byD l q la = some x → byL l seen (q.map (·.tx)) la = some x
  | [], _, _, _, h => h
  | d :: q, la, x, hq, h => by
    rw [byD] at h
    rw [List.map_cons, byL]
    split at h
    · rename_i h1
      rw [if_pos (by rw [h1]; exact (hq d List.mem_cons_self).symm)]
      exact byL_of_byD q _ (fun d hd => hq d (List.mem_cons_of_mem _ hd)) h
    · cases h
theorem byL_done {l : List HOp} {s : VSt} (hn : (s.ds.map (·.tx)).Nodup) (hs : ∀ t ∈ s.dn, t ∈ s.ds.map (·.tx)) (hdn : s.dn.Nodup) (hseen : ∀ d ∈ s.ds, ∀ x ∈ d.seen, x.tx = d.tx) {q : List Dl} (hq : ∀ d ∈ q, d ∈ doneD s) {la x : List Int} (hB : byD l q la = some x) : byL l (seenOf s) (q.map (·.tx)) la = some x := by
  refine byL_of_byD q la (fun d hd => ?_) hB
  exact flat_own (by rw [doneD_txs hn hs]; exact hdn) (fun d hd => hseen d (doneD_mem hn hs hd).1) d (hq d hd)
/-- What holds of whoever is done. -/
theorem vdone_right {l : List HOp} (hk : okH l) {s : VSt} {k : Nat} (hok : VOk k s) (hs : ∀ t ∈ s.dn, t ∈ s.ds.map (·.tx)) (hdn : s.dn.Nodup) (hcom : ∀ t ∈ s.dn, (⟨t, 3, 0⟩ : HOp) ∈ l) : (∀ t ∈ s.dn, endGo t l = 3) ∧ s.dn.length ≤ 6 := by
  refine ⟨fun t ht => ?_, ?_⟩
  · have := endGo_is hk (hcom t ht) (by show (3 : Int) ≤ 3; decide)
    exact this
  · have : OrdOk s.dn := ⟨hdn, fun t ht => by
      obtain ⟨d, hd, rfl⟩ := List.mem_map.1 (hs t ht)
      exact (hok.deals d hd).tx⟩
    exact this.len
theorem valid_serialL {l : List HOp} (hk : okH l) : byL l (seenOf (playV validR l)) (playV validR l).dn [0, 0, 0, 0, 0, 0] = some (playV validR l).last ∧ (playV validR l).dn.Nodup ∧ (∀ t ∈ (playV validR l).dn, endGo t l = 3) ∧ (playV validR l).dn.length ≤ 6 := by
  have I := valid_serial hk
  have h1 := byL_done (l := l) I.nodup I.dnds I.dnN I.seen (q := doneD (playV validR l)) (fun _ h => h) I.by_
  rw [doneD_txs I.nodup I.dnds] at h1
  exact ⟨h1, I.dnN, vdone_right hk I.ok I.dnds I.dnN fun t ht => by
    obtain ⟨j, _, h⟩ := I.com t ht
    exact List.mem_of_getElem? h⟩
theorem seenOf_len {k : Nat} {s : VSt} (hok : VOk k s) (hs : ∀ t ∈ s.dn, t ∈ s.ds.map (·.tx)) (hn : (s.ds.map (·.tx)).Nodup) : (seenOf s).length ≤ s.dn.length * k := by
  have key : ∀ ds : List Dl, (∀ d ∈ ds, d.seen.length ≤ k) → (ds.flatMap (·.seen)).length ≤ ds.length * k := by
    intro ds
    induction ds with
    | nil => intro _; simp
    | cons d ds ih =>
      intro h
      have h1 := h d List.mem_cons_self
      have h2 := ih fun x hx => h x (List.mem_cons_of_mem _ hx)
      rw [List.flatMap_cons, List.length_append, List.length_cons, Nat.succ_mul]; omega
  have h1 := key (doneD s) fun d hd => (hok.deals d (doneD_mem hn hs hd).1).seen
  have h2 : (doneD s).length = s.dn.length := by unfold doneD; rw [List.length_map]
  rw [h2] at h1
  exact h1
end Go.Proofs.YtmehghkpghbpjaaGreat


namespace Go.Proofs.YtmehghkpghbpjaaGreat
open Go.RowKit

def endedGo (es : List Int) : List HOp → List Int
  | [] => es
  | o :: t => endedGo (if endsB o then es.set o.tx.toNat o.what else es) t
def endedF (h : List HOp) : List Int := endedGo (List.replicate 7 0) h
theorem endedGo_length (es : List Int) (h : List HOp) : (endedGo es h).length = es.length := by
  induction h generalizing es with
  | nil => rfl
  | cons o t ih => rw [endedGo, ih]; split <;> simp
theorem endedF_length (h : List HOp) : (endedF h).length = 7 := by simp [endedF, endedGo_length]
theorem list7 {α : Type} {l : List α} (h : l.length = 7) : ∃ a b c d e f g, l = [a, b, c, d, e, f, g] := by
  match l, h with
  | [a, b, c, d, e, f, g], _ => exact ⟨a, b, c, d, e, f, g, rfl⟩

def arr7 (l : List Int) : Value := .agg #[.int .i64 (l.getD 0 0), .int .i64 (l.getD 1 0), .int .i64 (l.getD 2 0), .int .i64 (l.getD 3 0), .int .i64 (l.getD 4 0), .int .i64 (l.getD 5 0), .int .i64 (l.getD 6 0)]

/-! ### Open. -/
def openT (es : List Int) (x : HOp) (what : Int) (o : HOp) : Bool := decide (o.what = what ∧ o.item = x.item ∧ o.tx ≠ x.tx ∧ es.getD o.tx.toNat 0 = 0)
def openB (pre : List HOp) (x : HOp) (what : Int) : Bool := pre.any (openT (endedF pre) x what)

/-- The four places that the test has caught. -/
structure OpenAt (w : World) (gw gh gi ge : Nat) (A : Option Addr) (n cap : Nat) (h : List HOp) (i : Nat) (what : Int) (es : List Int) : Prop where
  what : w.cell? ⟨gw, 0, none⟩ = some (.int .i64 what)
  hist : w.cell? ⟨gh, 0, none⟩ = some (.slice A n cap)
  idx : w.cell? ⟨gi, 0, none⟩ = some (.int .i64 i)
  ends : ∀ k, k < 7 → w.cell? ⟨ge, k, none⟩ = some (.int .i64 (es.getD k 0))
theorem OpenAt.below {w w' : World} {gw gh gi ge : Nat} {A : Option Addr} {n cap : Nat} {h : List HOp} {i : Nat} {what : Int} {es : List Int} {B : Nat} (H : OpenAt w gw gh gi ge A n cap h i what es) (hb : Below B w w') (h1 : gw < B) (h2 : gh < B) (h3 : gi < B) (h4 : ge < B) : OpenAt w' gw gh gi ge A n cap h i what es :=
  ⟨(hb.cell (p := ⟨gw, 0, none⟩) h1).trans H.what, (hb.cell (p := ⟨gh, 0, none⟩) h2).trans H.hist, (hb.cell (p := ⟨gi, 0, none⟩) h3).trans H.idx, fun k hk => (hb.cell (p := ⟨ge, k, none⟩) h4).trans (H.ends k hk)⟩

theorem Rd.take {w : World} {B n i : Nat} {A : Option Addr} {h : List HOp} (hr : Rd w B 3 A n (cellsH h)) (hi : i ≤ n) : Rd w B 3 A i (cellsH (h.take i)) := by
  have hl := hr.hlen
  refine ⟨by rw [cellsH_length, List.length_take]; omega, fun hp => ?_⟩
  obtain ⟨b, off, e, hb, hc⟩ := hr.2 (by omega)
  refine ⟨b, off, e, hb, fun j u hu => hc j u ?_⟩
  rw [← cellsH_take, List.getElem?_take] at hu
  split at hu
  · exact hu
  · cases hu
theorem idxGo_any {α : Type} (p : α → Bool) (h : List α) : decide (0 ≤ idxGo p 0 h) = h.any p := by
  rcases idxGo_spec p 0 h with ⟨h1, h2⟩ | ⟨i, o, h1, h2, h3, h4⟩
  · rw [h2]
    have : h.any p = false := by rw [List.any_eq_false]; intro x hx; simp [h1 x hx]
    rw [this]; rfl
  · rw [h4]
    have : h.any p = true := List.any_eq_true.2 ⟨o, List.mem_of_getElem? h1, h2⟩
    rw [this]; simp
end Go.Proofs.YtmehghkpghbpjaaGreat


namespace Go.Proofs.YtmehghkpghbpjaaGreat
open Go.RowKit

/-- Deals of rising numbers, one behind the other: each is done, and saw the one ahead. -/
def risV (n i : Int) : VSt := playV verR (piecesH i i ((List.range n.toNat).map fun k : Nat => (k : Int) + 1))
theorem ver_rising : ∀ n ∈ [1, 2, 3, 4, 5, 6], ∀ i ∈ [1, 2, 3, 4, 5, (6 : Int)], (risV n i).dn = (List.range n.toNat).map (fun k : Nat => (k : Int) + 1) ∧ (doneD (risV n i)).map (·.tx) = (List.range n.toNat).map (fun k : Nat => (k : Int) + 1) ∧ ((doneD (risV n i)).flatMap (·.seen)) = (List.range n.toNat).map (fun k : Nat => (⟨(k : Int) + 1, i, k⟩ : HOp)) ∧ (lastOf (doneD (risV n i))).getD (i.toNat - 1) 0 = n := by decide +kernel
end Go.Proofs.YtmehghkpghbpjaaGreat
