
/-
  CONTRACTS of snap.AtOnce, snap.Deals.
  PLAIN LAWS: with versions, by their numbers as if one behind the other (ver_serialL), and who only reads is done (ver_readerL).
  PLAIN: edges between deals, by a rule of two.
  CONTRACT of snap.Together: which deals ran at once.
-/
import Derived.Test.YtmehghkpghbpjaaGreatQ28
import Derived.Deep.RegionHeld3
import Derived.Test.YtmehghkpghbpjaaGreatQ12
import Derived.Test.YtmehghkpghbpjaaGreatQ25
import Derived.Test.YtmehghkpghbpjaaGreatQ8
import Derived.Test.YtmehghkpghbpjaaGreatQ40

namespace Go.Proofs.YtmehghkpghbpjaaGreat
open Go.RowKit

/-- A deal of a state, by its number. -/
def dgd (s : VSt) (t : Int) : Dl := (dget s.ds t).getD ⟨t, 0, 0, [], [], []⟩
theorem doneD_dgd (s : VSt) : doneD s = s.dn.map (dgd s) := rfl
end Go.Proofs.YtmehghkpghbpjaaGreat


namespace Go.Proofs.YtmehghkpghbpjaaGreat
open Go.RowKit

/-- The deals that are done, by their numbers, are some order of them. -/
structure ByNum (s : VSt) (ts : List Int) : Prop where
  perm : ts.Perm s.dn
  up : ts.Pairwise fun x y => ¬ y < x
theorem ByNum.lt {s : VSt} {ts : List Int} (H : ByNum s ts) (hd : s.dn.Nodup) : ts.Pairwise (· < ·) := by
  have hn : ts.Nodup := H.perm.nodup_iff.2 hd
  exact (H.up.and hn).imp fun ⟨h1, h2⟩ => by omega
theorem ver_serialL {l : List HOp} (hk : okH l) {ts : List Int} (H : ByNum (playV verR l) ts) : byL l (seenOf { playV verR l with dn := ts }) ts [0, 0, 0, 0, 0, 0] = some (lastOf (ts.map (dgd (playV verR l)))) ∧ ts.Nodup ∧ (∀ t ∈ ts, endGo t l = 3) ∧ ts.length ≤ 6 ∧ ts.Pairwise (· < ·) ∧ (seenOf { playV verR l with dn := ts }).length ≤ 6 * l.length := by
  have I := ver_inv hk
  have S := @ver_serial l hk
  generalize playV verR l = s at *
  have hlt := H.lt I.dnN
  have hm : ∀ t, t ∈ ts ↔ t ∈ s.dn := fun t => H.perm.mem_iff
  have hn : ts.Nodup := H.perm.nodup_iff.2 I.dnN
  have hq : doneD { s with dn := ts } = ts.map (dgd s) := rfl
  have htx : (ts.map (dgd s)).map (·.tx) = ts := by rw [← hq]; exact doneD_txs (s := { s with dn := ts }) I.nodup fun t ht => I.dnds t ((hm t).1 ht)
  have R := vdone_right hk I.ok I.dnds I.dnN fun t ht => by
    obtain ⟨j, _, h⟩ := I.com t ht
    exact List.mem_of_getElem? h
  have hl : ts.length ≤ 6 := by rw [H.perm.length_eq]; exact R.2
  have B := S (q := ts.map (dgd s)) (fun x => by
    show x ∈ ts.map (dgd s) ↔ x ∈ s.dn.map (dgd s)
    simp only [List.mem_map, hm]) (by
    have := hlt
    rw [← htx, List.pairwise_map] at this
    exact this)
  have B' := byL_done (l := l) (s := { s with dn := ts }) I.nodup (fun t ht => I.dnds t ((hm t).1 ht)) hn I.seen (q := ts.map (dgd s)) (fun _ h => h) B
  rw [htx] at B'
  have hok : VOk l.length { s with dn := ts } := ⟨by show ts.length ≤ _; rw [H.perm.length_eq]; exact I.ok.dn, I.ok.last, I.ok.looks, I.ok.deals⟩
  have L := seenOf_len hok (fun t ht => I.dnds t ((hm t).1 ht)) I.nodup
  refine ⟨B', hn, fun t ht => R.1 t ((hm t).1 ht), hl, hlt, ?_⟩
  exact Nat.le_trans L (Nat.mul_le_mul_right _ hl)
end Go.Proofs.YtmehghkpghbpjaaGreat


namespace Go.Proofs.YtmehghkpghbpjaaGreat
open Go.RowKit

def rawP (p : Dl → Dl → Bool) (ds : List Dl) : List (Int × Int) := ds.flatMap fun a => (ds.filter (p a)).map fun b => (a.tx, b.tx)
def togD (a b : Dl) : Bool := decide (a.tx < b.tx) && atOnceD a b
theorem filt_snoc {α β : Type} {ds : List α} {j : Nat} {e : α} (he : ds[j]? = some e) (p : α → Bool) (g : α → β) : ((ds.take (j + 1)).filter p).map g = ((ds.take j).filter p).map g ++ (if p e then [g e] else []) := by
  rw [List.take_add_one, he, List.filter_append, List.map_append]
  congr 1
  show List.map g (List.filter p [e]) = _
  cases h : p e <;> simp [h]
theorem flat_snoc {α β : Type} {ds : List α} {j : Nat} {e : α} (he : ds[j]? = some e) (f : α → List β) : (ds.take (j + 1)).flatMap f = (ds.take j).flatMap f ++ f e := by
  rw [List.take_add_one, he]; simp
theorem mem_rawP {p : Dl → Dl → Bool} {ds : List Dl} {x : Int × Int} : x ∈ rawP p ds ↔ ∃ a ∈ ds, ∃ b ∈ ds, p a b = true ∧ x = (a.tx, b.tx) := by
  unfold rawP
  rw [List.mem_flatMap]
  constructor
  · rintro ⟨a, ha, h⟩
    obtain ⟨b, hb, rfl⟩ := List.mem_map.1 h
    obtain ⟨hb, hp⟩ := List.mem_filter.1 hb
    exact ⟨a, ha, b, hb, hp, rfl⟩
  · rintro ⟨a, ha, b, hb, hp, rfl⟩
    exact ⟨a, ha, List.mem_map.2 ⟨b, List.mem_filter.2 ⟨hb, hp⟩, rfl⟩⟩
/-- Who is between, of edges. -/
def pivL (E : List (Int × Int)) : List Int := [1, 2, 3, 4, 5, 6].filter fun t => (E.any fun e => decide (e.2 = t)) && E.any fun e => decide (e.1 = t)
theorem pivL_anti (ds : List Dl) : pivL (sortS ltE (rawP antiD ds)) = pivsD ds := by
  unfold pivL pivsD
  congr 1
  funext t
  unfold pivB
  have h1 : ((sortS ltE (rawP antiD ds)).any fun e => decide (e.2 = t)) = ds.any fun a => ds.any fun b => antiD a b && decide (b.tx = t) := by
    rw [Bool.eq_iff_iff, List.any_eq_true, List.any_eq_true]
    constructor
    · rintro ⟨x, hx, h⟩
      obtain ⟨a, ha, b, hb, hp, rfl⟩ := mem_rawP.1 (mem_sortS.1 hx)
      exact ⟨a, ha, List.any_eq_true.2 ⟨b, hb, by rw [hp]; exact h⟩⟩
    · rintro ⟨a, ha, h⟩
      obtain ⟨b, hb, h⟩ := List.any_eq_true.1 h
      rw [Bool.and_eq_true] at h
      exact ⟨(a.tx, b.tx), mem_sortS.2 (mem_rawP.2 ⟨a, ha, b, hb, h.1, rfl⟩), h.2⟩
  have h2 : ((sortS ltE (rawP antiD ds)).any fun e => decide (e.1 = t)) = ds.any fun a => ds.any fun b => antiD a b && decide (a.tx = t) := by
    rw [Bool.eq_iff_iff, List.any_eq_true, List.any_eq_true]
    constructor
    · rintro ⟨x, hx, h⟩
      obtain ⟨a, ha, b, hb, hp, rfl⟩ := mem_rawP.1 (mem_sortS.1 hx)
      exact ⟨a, ha, List.any_eq_true.2 ⟨b, hb, by rw [hp]; exact h⟩⟩
    · rintro ⟨a, ha, h⟩
      obtain ⟨b, hb, h⟩ := List.any_eq_true.1 h
      rw [Bool.and_eq_true] at h
      exact ⟨(a.tx, b.tx), mem_sortS.2 (mem_rawP.2 ⟨a, ha, b, hb, h.1, rfl⟩), h.2⟩
  rw [h1, h2]
end Go.Proofs.YtmehghkpghbpjaaGreat


namespace Go.Proofs.YtmehghkpghbpjaaGreat
open Go.RowKit

end Go.Proofs.YtmehghkpghbpjaaGreat
