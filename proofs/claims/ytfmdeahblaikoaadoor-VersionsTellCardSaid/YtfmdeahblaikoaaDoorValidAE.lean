
/-
  PLAIN LAWS: with versions, by their numbers as if one behind the other (ver_serialL), and who only reads is done (ver_readerL).
-/
import Derived.Test.YtfmdeahblaikoaaDoorVQ2
import Derived.Test.YtfmdeahblaikoaaDoorVQ3
import Derived.Test.YtfmdeahblaikoaaDoorVD1

namespace Go.Proofs.YtfmdeahblaikoaaDoor
open Go.RowKit

/-- The deals that are done, by their numbers, are some order of them. -/
structure ByNum (s : VSt) (ts : List Int) : Prop where
  perm : ts.Perm s.dn
  up : ts.Pairwise fun x y => ¬ y < x
theorem ByNum.lt {s : VSt} {ts : List Int} (H : ByNum s ts) (hd : s.dn.Nodup) : ts.Pairwise (· < ·) := by
  have hn : ts.Nodup := H.perm.nodup_iff.2 hd
  exact (H.up.and hn).imp fun ⟨h1, h2⟩ => by omega
theorem ver_serialL {l : List HOp} (hk : okH l) {ts : List Int} (H : ByNum (playV verR l) ts) : byL l (seenOf { playV verR l with dn := ts }) ts [0, 0, 0, 0, 0, 0] = some (lastOf (ts.map (dgd (playV verR l)))) ∧ ts.Nodup ∧ (∀ t ∈ ts, endGo t l = 3) ∧ ts.length ≤ 6 ∧ ts.Pairwise (· < ·) ∧ (seenOf { playV verR l with dn := ts }).length ≤ 6 * l.length := by
  have I := ver_inv hk
  have S := @ver_serial l hk
  generalize playV verR l = s at *
  have hlt := H.lt I.dnN
  have hm : ∀ t, t ∈ ts ↔ t ∈ s.dn := fun t => H.perm.mem_iff
  have hn : ts.Nodup := H.perm.nodup_iff.2 I.dnN
  have hq : doneD { s with dn := ts } = ts.map (dgd s) := rfl
  have htx : (ts.map (dgd s)).map (·.tx) = ts := by rw [← hq]; exact doneD_txs (s := { s with dn := ts }) I.nodup fun t ht => I.dnds t ((hm t).1 ht)
  have R := vdone_right hk I.ok I.dnds I.dnN fun t ht => by
    obtain ⟨j, _, h⟩ := I.com t ht
    exact List.mem_of_getElem? h
  have hl : ts.length ≤ 6 := by rw [H.perm.length_eq]; exact R.2
  have B := S (q := ts.map (dgd s)) (fun x => by
    show x ∈ ts.map (dgd s) ↔ x ∈ s.dn.map (dgd s)
    simp only [List.mem_map, hm]) (by
    have := hlt
    rw [← htx, List.pairwise_map] at this
    exact this)
  have B' := byL_done (l := l) (s := { s with dn := ts }) I.nodup (fun t ht => I.dnds t ((hm t).1 ht)) hn I.seen (q := ts.map (dgd s)) (fun _ h => h) B
  rw [htx] at B'
  have hok : VOk l.length { s with dn := ts } := ⟨by show ts.length ≤ _; rw [H.perm.length_eq]; exact I.ok.dn, I.ok.last, I.ok.looks, I.ok.deals⟩
  have L := seenOf_len hok (fun t ht => I.dnds t ((hm t).1 ht)) I.nodup
  refine ⟨B', hn, fun t ht => R.1 t ((hm t).1 ht), hl, hlt, ?_⟩
  exact Nat.le_trans L (Nat.mul_le_mul_right _ hl)
end Go.Proofs.YtfmdeahblaikoaaDoor
