
/-
  PLAIN LAWS: deals one behind the other by rising numbers: runs that see what was last (valid), what was when they began (snap), and by numbers (versions) come to the same.
  PLAIN LAWS for StampOrders: of what is told by numbers each that is at odds with one ahead is of a greater number; an order along rising edges.
-/
import Derived.Test.YtmehghkpghbpjaaGreatQ12
import Derived.Test.YtmehghkpghbpjaaGreatQ10
import Derived.Test.YtmehghkpghbpjaaGreatQ41
import Derived.Test.YtmehghkpghbpjaaGreatQ39
import Derived.Test.YtmehghkpghbpjaaGreatQ19
import Derived.Test.YtmehghkpghbpjaaGreatQ6

namespace Go.Proofs.YtmehghkpghbpjaaGreat
open Go.RowKit

/-! ### Blocks: a deal's reads and writes, and its commit. -/
def blkOk (t : Int) (l : List HOp) : Prop := ∀ o ∈ l, o.tx = t ∧ (o.what = 1 ∨ o.what = 2) ∧ 1 ≤ o.item ∧ o.item ≤ 6
/-- What it wrote, behind what it had written; what it sees. -/
def wroB : List Int → List HOp → List Int
  | w, [] => w
  | w, o :: r => if o.what = 1 then wroB w r else wroB (w ++ [o.item]) r
def seeB (t : Int) (la : List Int) : List Int → List HOp → List HOp
  | _, [] => []
  | w, o :: r => if o.what = 1 then ⟨t, o.item, if o.item ∈ w then t else la.getD (o.item.toNat - 1) 0⟩ :: seeB t la w r else seeB t la (w ++ [o.item]) r
def blkD (t : Int) (k : Nat) (la : List Int) (l : List HOp) : Dl := ⟨t, k, (k + l.length : Nat), seeB t la [] l, wroB [] l, la⟩
theorem wroB_items {t : Int} : ∀ {l : List HOp} {w : List Int}, blkOk t l → (∀ i ∈ w, 1 ≤ i ∧ i ≤ 6) → ∀ i ∈ wroB w l, 1 ≤ i ∧ i ≤ 6
  | [], w, _, hw => hw
  | o :: r, w, h, hw => by
    have ho := h o List.mem_cons_self
    have hr : blkOk t r := fun x hx => h x (List.mem_cons_of_mem _ hx)
    unfold wroB
    split
    · exact wroB_items hr hw
    · refine wroB_items hr fun i hi => ?_
      rcases List.mem_append.1 hi with hi | hi
      · exact hw i hi
      · rw [List.mem_singleton.1 hi]; exact ho.2.2
/-- What a state's deal is, once it stands last, is opened already. -/
theorem vstep_open (R : VRules) (k : Nat) (o : HOp) (s : VSt) : vstep R k o s = vstep R k o (openS s k o.tx) := by
  have h := openS_get s k o.tx
  obtain ⟨h1, h2⟩ := openS_has (k := k) h
  unfold vstep
  rw [h1, h2]
/-- One deal's ops, by rules that see what was last, and let it commit; P: what is so of the looks meanwhile. -/
theorem vrun_in {R : VRules} {P : List HOp → Prop} {ds : List Dl} {dn last : List Int} {t : Int} {k : Nat} (hn : t ∉ ds.map (·.tx))
    (hsee : ∀ se wr lo i, 1 ≤ i → i ≤ 6 → R.see ⟨ds ++ [⟨t, k, -1, se, wr, last⟩], dn, last, lo⟩ ⟨t, k, -1, se, wr, last⟩ i = last.getD (i.toNat - 1) 0)
    (hlook : ∀ se wr lo i, P lo → P (R.look ⟨ds ++ [⟨t, k, -1, se, wr, last⟩], dn, last, lo⟩ ⟨t, k, -1, se, wr, last⟩ i))
    (hmay : ∀ se wr lo, P lo → R.may ⟨ds ++ [⟨t, k, -1, se, wr, last⟩], dn, last, lo⟩ ⟨t, k, -1, se, wr, last⟩ = true) (r : List HOp) :
    ∀ (l : List HOp) (j : Nat) (se : List HOp) (wr : List Int) (lo : List HOp), blkOk t l → P lo →
      ∃ lo', P lo' ∧ vrun R j (l ++ ⟨t, 3, 0⟩ :: r) ⟨ds ++ [⟨t, k, -1, se, wr, last⟩], dn, last, lo⟩ = vrun R (j + l.length + 1) r ⟨ds ++ [⟨t, k, (j + l.length : Nat), se ++ seeB t last wr l, wroB wr l, last⟩], dn ++ [t], setsL t (wroB wr l) last, lo'⟩ := by
  have key : ∀ (d : Dl) (lo : List HOp) (j : Nat), d.tx = t → openS ⟨ds ++ [d], dn, last, lo⟩ j t = ⟨ds ++ [d], dn, last, lo⟩ ∧ begD ⟨ds ++ [d], dn, last, lo⟩ j t = d := fun d lo j hd => openS_has (by rw [← hd]; exact dget_last (by rw [hd]; exact hn))
  intro l
  induction l with
  | nil =>
    intro j se wr lo _ hp
    refine ⟨lo, hp, ?_⟩
    show vrun R (j + 1) r (vstep R j ⟨t, 3, 0⟩ _) = _
    have e : vstep R j ⟨t, 3, 0⟩ ⟨ds ++ [⟨t, k, -1, se, wr, last⟩], dn, last, lo⟩ = ⟨ds ++ [⟨t, k, (j : Int), se, wr, last⟩], dn ++ [t], setsL t wr last, lo⟩ := by
      unfold vstep
      simp only
      rw [(key _ lo j rfl).1, (key _ lo j rfl).2, if_neg (by decide), if_neg (by decide), if_pos trivial, if_pos (hmay se wr lo hp)]
      congr 1
      exact dput_last hn rfl
    rw [e]
    simp [seeB, wroB]
  | cons o q ih =>
    intro j se wr lo hb hp
    obtain ⟨h1, h2, h3, h4⟩ := hb o List.mem_cons_self
    have hq : blkOk t q := fun x hx => hb x (List.mem_cons_of_mem _ hx)
    obtain ⟨tx, what, item⟩ := o
    simp only at h1 h2 h3 h4
    subst h1
    show ∃ lo', P lo' ∧ vrun R (j + 1) (q ++ ⟨tx, 3, 0⟩ :: r) (vstep R j ⟨tx, what, item⟩ _) = _
    have ej : j + 1 + q.length = j + ((⟨tx, what, item⟩ : HOp) :: q).length := by simp; omega
    rcases h2 with h2 | h2
    · subst h2
      by_cases hin : item ∈ wr
      · have e : vstep R j ⟨tx, 1, item⟩ ⟨ds ++ [⟨tx, k, -1, se, wr, last⟩], dn, last, lo⟩ = ⟨ds ++ [⟨tx, k, -1, se ++ [⟨tx, item, tx⟩], wr, last⟩], dn, last, lo⟩ := by
          unfold vstep
          simp only
          rw [(key _ lo j rfl).1, (key _ lo j rfl).2, if_pos trivial, if_pos hin]
          congr 1
          exact dput_last hn rfl
        rw [e]
        obtain ⟨lo', g1, g2⟩ := ih (j + 1) (se ++ [⟨tx, item, tx⟩]) wr lo hq hp
        refine ⟨lo', g1, g2.trans ?_⟩
        rw [ej]
        simp [seeB, wroB, hin]
      · have e : vstep R j ⟨tx, 1, item⟩ ⟨ds ++ [⟨tx, k, -1, se, wr, last⟩], dn, last, lo⟩ = ⟨ds ++ [⟨tx, k, -1, se ++ [⟨tx, item, last.getD (item.toNat - 1) 0⟩], wr, last⟩], dn, last, R.look ⟨ds ++ [⟨tx, k, -1, se, wr, last⟩], dn, last, lo⟩ ⟨tx, k, -1, se, wr, last⟩ item⟩ := by
          unfold vstep
          simp only
          rw [(key _ lo j rfl).1, (key _ lo j rfl).2, if_pos trivial, if_neg hin, hsee se wr lo item h3 h4]
          congr 1
          exact dput_last hn rfl
        rw [e]
        obtain ⟨lo', g1, g2⟩ := ih (j + 1) (se ++ [⟨tx, item, last.getD (item.toNat - 1) 0⟩]) wr _ hq (hlook se wr lo item hp)
        refine ⟨lo', g1, g2.trans ?_⟩
        rw [ej]
        simp [seeB, wroB, hin]
    · subst h2
      have e : vstep R j ⟨tx, 2, item⟩ ⟨ds ++ [⟨tx, k, -1, se, wr, last⟩], dn, last, lo⟩ = ⟨ds ++ [⟨tx, k, -1, se, wr ++ [item], last⟩], dn, last, lo⟩ := by
        unfold vstep
        simp only
        rw [(key _ lo j rfl).1, (key _ lo j rfl).2, if_neg (by decide), if_pos trivial]
        congr 1
        exact dput_last hn rfl
      rw [e]
      obtain ⟨lo', g1, g2⟩ := ih (j + 1) se (wr ++ [item]) lo hq hp
      refine ⟨lo', g1, g2.trans ?_⟩
      rw [ej]
      simp [seeB, wroB]
/-- A whole block. -/
theorem vrun_block {R : VRules} {P : List HOp → Prop} {ds : List Dl} {dn last : List Int} {t : Int} {k : Nat} (hn : t ∉ ds.map (·.tx))
    (hsee : ∀ se wr lo i, 1 ≤ i → i ≤ 6 → R.see ⟨ds ++ [⟨t, k, -1, se, wr, last⟩], dn, last, lo⟩ ⟨t, k, -1, se, wr, last⟩ i = last.getD (i.toNat - 1) 0)
    (hlook : ∀ se wr lo i, P lo → P (R.look ⟨ds ++ [⟨t, k, -1, se, wr, last⟩], dn, last, lo⟩ ⟨t, k, -1, se, wr, last⟩ i))
    (hmay : ∀ se wr lo, P lo → R.may ⟨ds ++ [⟨t, k, -1, se, wr, last⟩], dn, last, lo⟩ ⟨t, k, -1, se, wr, last⟩ = true) (r : List HOp)
    {l : List HOp} (hb : blkOk t l) {lo : List HOp} (hp : P lo) :
    ∃ lo', P lo' ∧ vrun R k (l ++ ⟨t, 3, 0⟩ :: r) ⟨ds, dn, last, lo⟩ = vrun R (k + l.length + 1) r ⟨ds ++ [blkD t k last l], dn ++ [t], setsL t (wroB [] l) last, lo'⟩ := by
  have e1 : openS ⟨ds, dn, last, lo⟩ k t = ⟨ds ++ [⟨t, k, -1, [], [], last⟩], dn, last, lo⟩ := by
    unfold openS begD
    simp only
    rw [dget_none hn]
    show (⟨dput ds ⟨t, k, -1, [], [], last⟩, dn, last, lo⟩ : VSt) = _
    rw [dput_new (by exact hn)]
  have e2 : vrun R k (l ++ ⟨t, 3, 0⟩ :: r) ⟨ds, dn, last, lo⟩ = vrun R k (l ++ ⟨t, 3, 0⟩ :: r) ⟨ds ++ [⟨t, k, -1, [], [], last⟩], dn, last, lo⟩ := by
    rw [← e1]
    cases l with
    | nil =>
      show vrun R (k + 1) r (vstep R k ⟨t, 3, 0⟩ _) = vrun R (k + 1) r (vstep R k ⟨t, 3, 0⟩ _)
      rw [vstep_open]
    | cons o q =>
      show vrun R (k + 1) _ (vstep R k o _) = vrun R (k + 1) _ (vstep R k o _)
      rw [vstep_open, (hb o List.mem_cons_self).1]
  rw [e2]
  obtain ⟨lo', g1, g2⟩ := vrun_in hn hsee hlook hmay r l k [] [] lo hb hp
  exact ⟨lo', g1, by rw [g2, List.nil_append]; rfl⟩

/-! ### Blocks one behind the other. -/
def flatB (bs : List (Int × List HOp)) : List HOp := bs.flatMap fun b => b.2 ++ [⟨b.1, 3, 0⟩]
theorem flatB_cons (t : Int) (l : List HOp) (bs : List (Int × List HOp)) : flatB ((t, l) :: bs) = l ++ ⟨t, 3, 0⟩ :: flatB bs := by simp [flatB]
/-- What is done, by blocks: deals, their numbers, who wrote last. -/
def serGo : Nat → List Dl → List Int → List Int → List (Int × List HOp) → List Dl × List Int × List Int
  | _, ds, dn, last, [] => (ds, dn, last)
  | k, ds, dn, last, (t, l) :: r => serGo (k + l.length + 1) (ds ++ [blkD t k last l]) (dn ++ [t]) (setsL t (wroB [] l) last) r
/-- Deals one behind the other by rising numbers. -/
structure SerR (k : Nat) (ds : List Dl) (dn last : List Int) : Prop where
  ser : Ser k ⟨ds, dn, last, []⟩
  pos : ∀ d ∈ ds, 1 ≤ d.tx
  items : ∀ d ∈ ds, ∀ i ∈ d.wrote, 1 ≤ i ∧ i ≤ 6
  len : last.length = 6
  lst : last = lastOf ds
  who : ∀ i, 1 ≤ i → i ≤ 6 → ∀ b, (∀ d ∈ ds, d.tx < b) → whoV ds i b = last.getD (i.toNat - 1) 0
theorem serR0 : SerR 0 [] [] [0, 0, 0, 0, 0, 0] := ⟨ser0, fun _ h => (by cases h), fun _ h => (by cases h), rfl, rfl, fun i h1 h2 b _ => by
  have : i = 1 ∨ i = 2 ∨ i = 3 ∨ i = 4 ∨ i = 5 ∨ i = 6 := by omega
  rcases this with rfl | rfl | rfl | rfl | rfl | rfl <;> rfl⟩
theorem SerR.next {k : Nat} {ds : List Dl} {dn last : List Int} (h : SerR k ds dn last) {t : Int} (ht : 1 ≤ t) (hlt : ∀ d ∈ ds, d.tx < t) {l : List HOp} (hb : blkOk t l) :
    SerR (k + l.length + 1) (ds ++ [blkD t k last l]) (dn ++ [t]) (setsL t (wroB [] l) last) := by
  have hw := wroB_items (w := []) hb (fun _ h => by cases h)
  have hn : t ∉ ds.map (·.tx) := fun hm => by
    obtain ⟨d, hd, e⟩ := List.mem_map.1 hm
    have := hlt d hd
    omega
  refine ⟨⟨?_, ?_, ?_, ?_⟩, ?_, ?_, ?_, ?_, ?_⟩
  · show dn ++ [t] = (ds ++ [_]).map _
    rw [show dn = ds.map (·.tx) from h.ser.dn, List.map_append]; rfl
  · show ((ds ++ [_]).map _).Nodup
    rw [List.map_append, List.nodup_append]
    exact ⟨h.ser.nd, by simp, fun x hx y hy e => hn (by rw [show y = t by simpa [blkD] using hy] at e; rw [← e]; exact hx)⟩
  · show (ds ++ [_]).Pairwise _
    rw [List.pairwise_append]
    refine ⟨h.ser.apart, by simp, fun x hx y hy => ?_⟩
    rw [List.mem_singleton.1 hy]
    exact (h.ser.ended x hx).2.2
  · intro d hd
    rcases List.mem_append.1 hd with hd | hd
    · have := h.ser.ended d hd
      exact ⟨this.1, this.2.1, by omega⟩
    · rw [List.mem_singleton.1 hd]
      show (0 : Int) ≤ (k : Int) ∧ (k : Int) ≤ ((k + l.length : Nat) : Int) ∧ ((k + l.length : Nat) : Int) < _
      omega
  · intro d hd
    rcases List.mem_append.1 hd with hd | hd
    · exact h.pos d hd
    · rw [List.mem_singleton.1 hd]; exact ht
  · intro d hd
    rcases List.mem_append.1 hd with hd | hd
    · exact h.items d hd
    · rw [List.mem_singleton.1 hd]; exact hw
  · rw [setsL_len]; exact h.len
  · rw [lastOf_snoc, ← h.lst]; rfl
  · intro i h1 h2 b hbd
    have hb0 : ∀ d ∈ ds, d.tx < b := fun d hd => hbd d (List.mem_append_left _ hd)
    have htb : t < b := hbd (blkD t k last l) (by simp)
    rw [whoV_snoc, setsL_get h.len hw h1 h2, h.who i h1 h2 b hb0]
    rw [show (blkD t k last l).tx = t from rfl, show (blkD t k last l).wrote = wroB [] l from rfl, decide_eq_true htb, Bool.true_and]
    by_cases hi : i ∈ wroB [] l
    · rw [if_pos (decide_eq_true hi), if_pos hi, ← h.who i h1 h2 b hb0]
      rcases (whoV_spec ds i b h.pos).2 with e | ⟨d, hd, e, _⟩
      · rw [e]; omega
      · have := hlt d hd
        rw [← e]; omega
    · rw [if_neg (by simpa using hi), if_neg hi]
/-- The rules that go alike where deals come one behind the other by rising numbers. -/
def LkR (R : VRules) (t : Int) (lo : List HOp) : Prop := R = verR → ∀ q ∈ lo, q.item ≤ t
theorem block_any {R : VRules} (hR : R = validR ∨ R = snapR ∨ R = verR) {k : Nat} {ds : List Dl} {dn last : List Int} (h : SerR k ds dn last) {t : Int} (hlt : ∀ d ∈ ds, d.tx < t) (r : List HOp) {l : List HOp} (hb : blkOk t l) {lo : List HOp} (hp : LkR R t lo) :
    ∃ lo', LkR R t lo' ∧ vrun R k (l ++ ⟨t, 3, 0⟩ :: r) ⟨ds, dn, last, lo⟩ = vrun R (k + l.length + 1) r ⟨ds ++ [blkD t k last l], dn ++ [t], setsL t (wroB [] l) last, lo'⟩ := by
  have hn : t ∉ ds.map (·.tx) := fun hm => by
    obtain ⟨d, hd, e⟩ := List.mem_map.1 hm
    have := hlt d hd
    omega
  have hd : ∀ se wr lo, doneD ⟨ds ++ [⟨t, k, -1, se, wr, last⟩], dn, last, lo⟩ = ds := fun se wr lo => doneD_snoc (s := ⟨ds, dn, last, lo⟩) (k := k) ⟨h.ser.dn, h.ser.nd, h.ser.apart, h.ser.ended⟩ hn
  have he : ∀ d ∈ ds, d.ended < k := fun d hd => (h.ser.ended d hd).2.2
  rcases hR with rfl | rfl | rfl
  · refine vrun_block (P := LkR validR t) hn (fun _ _ _ _ _ _ => rfl) (fun _ _ _ _ hp => hp) (fun se wr lo _ => ?_) r hb hp
    show (!sinceD k _ _) = true
    rw [hd, ser_since he]; rfl
  · refine vrun_block (P := LkR snapR t) hn (fun _ _ _ _ _ _ => rfl) (fun _ _ _ _ hp => hp) (fun se wr lo _ => ?_) r hb hp
    show (!sinceD k _ _) = true
    rw [hd, ser_since he]; rfl
  · refine vrun_block (P := LkR verR t) hn (fun se wr lo i h1 h2 => ?_) (fun se wr lo i hp => ?_) (fun se wr lo hp => ?_) r hb hp
    · show whoV (doneD _) i t = _
      rw [hd]
      exact h.who i h1 h2 t hlt
    · intro _ q hq
      rcases List.mem_append.1 hq with hq | hq
      · exact hp rfl q hq
      · rw [List.mem_singleton.1 hq]; exact Int.le_refl _
    · show (!lo.any _) = true
      rw [Bool.not_eq_true', List.any_eq_false]
      intro q hq
      have := hp rfl q hq
      simp
      intro _ h2
      omega
/-- Blocks of rising numbers, from a number on. -/
def RisB : Int → List (Int × List HOp) → Prop
  | _, [] => True
  | b, (t, l) :: r => b < t ∧ blkOk t l ∧ RisB t r
theorem blocks_run {R : VRules} (hR : R = validR ∨ R = snapR ∨ R = verR) : ∀ (bs : List (Int × List HOp)) (b : Int) (k : Nat) (ds : List Dl) (dn last : List Int) (lo : List HOp), 0 ≤ b → SerR k ds dn last → (∀ d ∈ ds, d.tx ≤ b) → RisB b bs → LkR R b lo →
    (∃ lo', vrun R k (flatB bs) ⟨ds, dn, last, lo⟩ = ⟨(serGo k ds dn last bs).1, (serGo k ds dn last bs).2.1, (serGo k ds dn last bs).2.2, lo'⟩) ∧ (∃ k', SerR k' (serGo k ds dn last bs).1 (serGo k ds dn last bs).2.1 (serGo k ds dn last bs).2.2) ∧ (serGo k ds dn last bs).2.1 = dn ++ bs.map (·.1)
  | [], b, k, ds, dn, last, lo, _, h, _, _, _ => ⟨⟨lo, rfl⟩, ⟨k, h⟩, by simp [serGo]⟩
  | (t, l) :: r, b, k, ds, dn, last, lo, hb0, h, hle, hris, hp => by
    obtain ⟨h1, h2, h3⟩ := hris
    have hlt : ∀ d ∈ ds, d.tx < t := fun d hd => by have := hle d hd; omega
    obtain ⟨lo1, g1, g2⟩ := block_any hR h hlt (flatB r) h2 (lo := lo) (fun e q hq => by have := hp e q hq; omega)
    have hnx := h.next (by omega) hlt h2
    obtain ⟨⟨lo2, i1⟩, i2, i3⟩ := blocks_run hR r t _ _ _ _ lo1 (by omega) hnx (fun d hd => by
      rcases List.mem_append.1 hd with hd | hd
      · have := hlt d hd; omega
      · rw [List.mem_singleton.1 hd]; exact Int.le_refl _) h3 g1
    rw [flatB_cons, g2]
    refine ⟨⟨lo2, i1⟩, i2, ?_⟩
    show (serGo (k + l.length + 1) _ (dn ++ [t]) _ r).2.1 = _
    rw [i3]; simp
end Go.Proofs.YtmehghkpghbpjaaGreat


namespace Go.Proofs.YtmehghkpghbpjaaGreat
open Go.RowKit

/-! ### What is told by numbers: each that is at odds with one ahead is of a greater number. -/
structure TInv (pre : List HOp) (ms : List (Int × Int)) (told : List HOp) (vic : List Int) : Prop where
  ml : ms.length = 7
  ok : okH told
  len : told.length ≤ pre.length
  rd : ∀ x ∈ told, x.what = 1 → x.tx ≤ (ms.getD x.item.toNat (0, 0)).1
  wr : ∀ x ∈ told, x.what = 2 → x.tx ≤ (ms.getD x.item.toNat (0, 0)).2
  up : told.Pairwise fun a b => oddB a b = true → a.tx < b.tx
  en : ∀ t, endIn t told = true → t ∈ vic ∨ endIn t pre = true
  vi : ∀ v ∈ vic, ∃ l, ownL told v = l ++ [⟨v, 4, 0⟩]
  vr : ∀ v ∈ vic, 1 ≤ v ∧ v ≤ 6
def MsLe (ms ms' : List (Int × Int)) : Prop := ∀ i, (ms.getD i (0, 0)).1 ≤ (ms'.getD i (0, 0)).1 ∧ (ms.getD i (0, 0)).2 ≤ (ms'.getD i (0, 0)).2
theorem MsLe.refl (ms : List (Int × Int)) : MsLe ms ms := fun _ => ⟨Int.le_refl _, Int.le_refl _⟩
theorem MsLe.set {ms : List (Int × Int)} {i : Nat} {p : Int × Int} (h1 : (ms.getD i (0, 0)).1 ≤ p.1) (h2 : (ms.getD i (0, 0)).2 ≤ p.2) : MsLe ms (ms.set i p) := fun j => by
  simp only [List.getD_eq_getElem?_getD] at h1 h2 ⊢
  rw [List.getElem?_set]
  by_cases e : i = j
  · subst e
    rw [if_pos rfl]
    by_cases hl : i < ms.length
    · rw [if_pos hl]; exact ⟨h1, h2⟩
    · rw [if_neg hl, List.getElem?_eq_none (by omega)]; exact ⟨Int.le_refl _, Int.le_refl _⟩
  · rw [if_neg e]; exact ⟨Int.le_refl _, Int.le_refl _⟩
theorem getD_set {ms : List (Int × Int)} {i : Nat} {p : Int × Int} (h : i < ms.length) : (ms.set i p).getD i (0, 0) = p := by
  rw [List.getD_eq_getElem?_getD, List.getElem?_set, if_pos rfl, if_pos h]; rfl
theorem TInv.not_in {pre : List HOp} {ms : List (Int × Int)} {told : List HOp} {vic : List Int} (h : TInv pre ms told vic) {o : HOp} {r : List HOp} (hk : okH (pre ++ o :: r)) (hv : o.tx ∉ vic) : endIn o.tx told = false := by
  cases he : endIn o.tx told with
  | false => rfl
  | true =>
    rcases h.en o.tx he with h1 | h1
    · exact absurd h1 hv
    · rw [(okH_after hk).2] at h1
      cases h1
theorem pre_len {pre : List HOp} {o : HOp} {r : List HOp} (hk : okH (pre ++ o :: r)) : pre.length ≤ 39 := by
  have := okH_len hk
  simp at this
  omega
theorem TInv.tell {pre : List HOp} {ms ms' : List (Int × Int)} {told : List HOp} {vic : List Int} (h : TInv pre ms told vic) {o x : HOp} {r : List HOp} (hk : okH (pre ++ o :: r)) (hv : o.tx ∉ vic) (hl : ms'.length = 7) (hms : MsLe ms ms')
    (hx : x.tx = o.tx) (hxr : rightB x = true) (h1 : x.what = 1 → x.tx ≤ (ms'.getD x.item.toNat (0, 0)).1 ∧ (ms.getD x.item.toNat (0, 0)).2 ≤ x.tx)
    (h2 : x.what = 2 → x.tx ≤ (ms'.getD x.item.toNat (0, 0)).2 ∧ (ms.getD x.item.toNat (0, 0)).1 ≤ x.tx ∧ (ms.getD x.item.toNat (0, 0)).2 ≤ x.tx)
    (vic' : List Int) (hvic : vic' = vic ∧ x = o ∨ vic' = vic ++ [o.tx] ∧ x = ⟨o.tx, 4, 0⟩) : TInv (pre ++ [o]) ms' (told ++ [x]) vic' := by
  have hn := h.not_in hk hv
  have hp := pre_len hk
  have hlen := h.len
  have hor := (okH_after hk).1
  have hg := rightB_get hor
  refine ⟨hl, okH_snoc h.ok (by omega) hxr (by rw [hx]; exact hn), by simp; omega, ?_, ?_, ?_, ?_, ?_, ?_⟩
  · intro y hy hw
    rcases List.mem_append.1 hy with hy | hy
    · exact Int.le_trans (h.rd y hy hw) (hms _).1
    · rw [List.mem_singleton.1 hy] at hw ⊢; exact (h1 hw).1
  · intro y hy hw
    rcases List.mem_append.1 hy with hy | hy
    · exact Int.le_trans (h.wr y hy hw) (hms _).2
    · rw [List.mem_singleton.1 hy] at hw ⊢; exact (h2 hw).1
  · rw [List.pairwise_append]
    refine ⟨h.up, List.pairwise_singleton _ _, fun a ha b hb hab => ?_⟩
    rw [List.mem_singleton.1 hb] at hab ⊢
    unfold oddB at hab
    obtain ⟨g1, g2, g3, g4⟩ := of_decide_eq_true hab
    have hra := rightB_get (okH_right h.ok a ha)
    have hrx := rightB_get hxr
    have hle : a.tx ≤ x.tx := by
      by_cases ha2 : a.what = 2
      · have q := h.wr a ha ha2
        rw [g2] at q
        by_cases hx1 : x.what = 1
        · exact Int.le_trans q (h1 hx1).2
        · by_cases hx2 : x.what = 2
          · exact Int.le_trans q (h2 hx2).2.2
          · have := hrx.2.2.2.2.2 (by omega); omega
      · have hx2 : x.what = 2 := by exact g4.resolve_left ha2
        by_cases ha1 : a.what = 1
        · have q := h.rd a ha ha1
          rw [g2] at q
          exact Int.le_trans q (h2 hx2).2.1
        · have := hra.2.2.2.2.2 (by omega); omega
    omega
  · intro t ht
    rw [endIn_snoc, Bool.or_eq_true] at ht
    rcases ht with ht | ht
    · rcases h.en t ht with h5 | h5
      · rcases hvic with ⟨e, _⟩ | ⟨e, _⟩
        · left; rw [e]; exact h5
        · left; rw [e]; exact List.mem_append_left _ h5
      · right; rw [endIn_snoc, h5]; rfl
    · obtain ⟨h5, h6⟩ := of_decide_eq_true ht
      rcases hvic with ⟨_, e⟩ | ⟨e, _⟩
      · right
        rw [endIn_snoc, ← e, decide_eq_true (show x.tx = t ∧ 3 ≤ x.what from ⟨h5, h6⟩), Bool.or_true]
      · left; rw [e]; exact List.mem_append_right _ (by rw [← h5, hx]; exact List.mem_singleton.2 rfl)
  · intro v hvv
    rcases hvic with ⟨e, _⟩ | ⟨e, ex⟩
    · rw [e] at hvv
      obtain ⟨l, hl⟩ := h.vi v hvv
      refine ⟨l, ?_⟩
      rw [ownL_append, hl]
      have : ownL [x] v = [] := by
        unfold ownL
        rw [List.filter_eq_nil_iff]
        intro y hy
        rw [List.mem_singleton.1 hy]
        simp
        rintro rfl
        exact hv (by rw [← hx]; exact hvv)
      rw [this, List.append_nil]
    · rw [e] at hvv
      by_cases ev : v = o.tx
      · subst ev
        refine ⟨ownL told o.tx, ?_⟩
        rw [ownL_append, ex]
        simp [ownL]
      · have hvv2 : v ∈ vic := by
          rcases List.mem_append.1 hvv with h5 | h5
          · exact h5
          · exact absurd (List.mem_singleton.1 h5) ev
        obtain ⟨l, hl⟩ := h.vi v hvv2
        refine ⟨l, ?_⟩
        rw [ownL_append, hl]
        have : ownL [x] v = [] := by
          unfold ownL
          rw [List.filter_eq_nil_iff]
          intro y hy
          rw [List.mem_singleton.1 hy]
          simp
          rintro rfl
          exact ev hx
        rw [this, List.append_nil]
  · intro v hvv
    rcases hvic with ⟨e, _⟩ | ⟨e, _⟩
    · exact h.vr v (by rw [e] at hvv; exact hvv)
    · rw [e] at hvv
      rcases List.mem_append.1 hvv with h5 | h5
      · exact h.vr v h5
      · rw [List.mem_singleton.1 h5]; exact ⟨hg.1, hg.2.1⟩
theorem TInv.skip {pre : List HOp} {ms ms' : List (Int × Int)} {told : List HOp} {vic : List Int} (h : TInv pre ms told vic) (o : HOp) (hl : ms'.length = 7) (hms : MsLe ms ms') : TInv (pre ++ [o]) ms' told vic :=
  ⟨hl, h.ok, by have := h.len; simp; omega, fun x hx hw => Int.le_trans (h.rd x hx hw) (hms _).1, fun x hx hw => Int.le_trans (h.wr x hx hw) (hms _).2, h.up,
    fun t ht => (h.en t ht).imp id fun h5 => by rw [endIn_snoc, h5]; rfl, h.vi, h.vr⟩
theorem stampGo_inv (lv : Bool) : ∀ (rest pre : List HOp) (ms : List (Int × Int)) (told : List HOp) (vic : List Int), okH (pre ++ rest) → TInv pre ms told vic →
    ∃ ms', TInv (pre ++ rest) ms' (stampGo lv ms told vic rest).1 (stampGo lv ms told vic rest).2
  | [], pre, ms, told, vic, _, h => ⟨ms, by rw [List.append_nil]; exact h⟩
  | o :: t, pre, ms, told, vic, hk, h => by
    have hk2 : okH ((pre ++ [o]) ++ t) := by rw [List.append_assoc]; exact hk
    have goal : ∀ ms' told' vic', TInv (pre ++ [o]) ms' told' vic' → ∃ ms'', TInv (pre ++ o :: t) ms'' (stampGo lv ms' told' vic' t).1 (stampGo lv ms' told' vic' t).2 := fun ms' told' vic' hs => by
      obtain ⟨m, hm⟩ := stampGo_inv lv t (pre ++ [o]) ms' told' vic' hk2 hs
      exact ⟨m, by rw [List.append_assoc] at hm; exact hm⟩
    have hor := (okH_after hk).1
    have hg := rightB_get hor
    rw [stampGo]
    by_cases hv : o.tx ∈ vic
    · rw [if_pos hv]
      exact goal _ _ _ (h.skip o h.ml (MsLe.refl _))
    · rw [if_neg hv]
      by_cases he : endsB o = true
      · rw [if_pos he]
        unfold endsB at he
        have he := of_decide_eq_true he
        exact goal _ _ _ (h.tell hk hv h.ml (MsLe.refl _) rfl hor (fun h1 => by omega) (fun h1 => by omega) vic (.inl ⟨rfl, rfl⟩))
      · rw [if_neg he]
        have hit : 1 ≤ o.item ∧ o.item ≤ 6 := hg.2.2.2.2.1 (by unfold endsB at he; simp at he; omega)
        have hlt : o.item.toNat < ms.length := by rw [h.ml]; omega
        have hw12 : o.what = 1 ∨ o.what = 2 := by unfold endsB at he; simp at he; omega
        have hlen : ∀ p, (ms.set o.item.toNat p).length = 7 := fun p => by rw [List.length_set]; exact h.ml
        simp only
        have hr4 : rightB (⟨o.tx, 4, 0⟩ : HOp) = true := rightB_mk ⟨hg.1, hg.2.1, by simp, by simp, fun h => by simp at h, fun _ => rfl⟩
        unfold lookM
        generalize hm : ms.getD o.item.toNat (0, 0) = m
        obtain ⟨r, wv⟩ := m
        simp only
        have hset : ∀ p : Int × Int, r ≤ p.1 → wv ≤ p.2 → MsLe ms (ms.set o.item.toNat p) := fun p h1 h2 => MsLe.set (by rw [hm]; exact h1) (by rw [hm]; exact h2)
        have habort : ∀ ms', ms'.length = 7 → MsLe ms ms' → ∃ ms'', TInv (pre ++ o :: t) ms'' (stampGo lv ms' (told ++ [⟨o.tx, 4, 0⟩]) (vic ++ [o.tx]) t).1 (stampGo lv ms' (told ++ [⟨o.tx, 4, 0⟩]) (vic ++ [o.tx]) t).2 := fun ms' hl hms =>
          goal _ _ _ (h.tell hk hv hl hms (x := ⟨o.tx, 4, 0⟩) rfl hr4 (fun h1 => by simp at h1) (fun h1 => by simp at h1) (vic ++ [o.tx]) (.inr ⟨rfl, rfl⟩))
        by_cases h1 : o.what = 1
        · rw [if_pos h1]
          by_cases h2 : wv > o.tx
          · rw [if_pos h2, if_neg (by simp), if_pos (by rfl)]
            exact habort _ (hlen _) (hset _ (Int.le_refl _) (Int.le_refl _))
          · rw [if_neg h2, if_pos (by rfl)]
            refine goal _ _ _ (h.tell hk hv (hlen _) (hset _ (Int.le_max_left _ _) (Int.le_refl _)) rfl hor (fun _ => ?_) (fun h3 => by omega) vic (.inl ⟨rfl, rfl⟩))
            rw [getD_set hlt, hm]
            exact ⟨Int.le_max_right _ _, by simp only; omega⟩
        · rw [if_neg h1]
          have h12 : o.what = 2 := by omega
          by_cases h2 : r > o.tx ∨ (wv > o.tx ∧ lv = false)
          · rw [if_pos h2, if_neg (by simp), if_pos (by rfl)]
            exact habort _ (hlen _) (hset _ (Int.le_refl _) (Int.le_refl _))
          · rw [if_neg h2]
            by_cases h3 : wv > o.tx
            · rw [if_pos h3, if_neg (by simp), if_neg (by simp)]
              exact goal _ _ _ (h.skip o (hlen _) (hset _ (Int.le_refl _) (Int.le_refl _)))
            · rw [if_neg h3, if_pos (by rfl)]
              refine goal _ _ _ (h.tell hk hv (hlen _) (hset _ (Int.le_refl _) (by simp only; omega)) rfl hor (fun h4 => absurd h4 h1) (fun _ => ?_) vic (.inl ⟨rfl, rfl⟩))
              rw [getD_set hlt, hm]
              refine ⟨Int.le_refl _, ?_, ?_⟩
              · simp only; have := fun e => h2 (.inl e); omega
              · simp only; omega
theorem stamp_inv (lv : Bool) {h : List HOp} (hk : okH h) : ∃ ms, TInv h ms (stampF lv h).1 (stampF lv h).2 := by
  obtain ⟨ms, this⟩ := stampGo_inv lv h [] (List.replicate 7 (0, 0)) [] [] (by simpa using hk) ⟨by simp, by show (checkF _).2 = 0; decide, by simp, by simp, by simp, List.Pairwise.nil, by simp [endIn], by simp, by simp⟩
  exact ⟨ms, by rw [List.nil_append] at this; exact this⟩

/-! ### An order along rising edges is the deals, rising. -/
theorem topGo_rise {E : List (Int × Int)} (hE : ∀ e ∈ E, e.1 < e.2) : ∀ (f : Nat) (left acc : List Int), left.length = f → Up ltI left → topGo E f left acc = some (acc ++ left)
  | 0, left, acc, hl, _ => by rw [topGo, List.eq_nil_of_length_eq_zero hl, List.append_nil]
  | f + 1, [], _, hl, _ => by simp at hl
  | f + 1, d :: t, acc, hl, hu => by
    have hu' := List.pairwise_cons.1 hu
    have hrd : readyB E (d :: t) d = true := by
      unfold readyB
      rw [Bool.not_eq_true', List.any_eq_false]
      rintro ⟨x, y⟩ he hc
      unfold holdsE at hc
      simp only [Bool.and_eq_true, decide_eq_true_eq] at hc
      have h1 := hE _ he
      simp only at h1
      rcases List.mem_cons.1 hc.2 with h2 | h2
      · omega
      · have := hu'.1 x h2
        simp [ltI] at this
        omega
    have hidx : idxGo (readyB E (d :: t)) 0 (d :: t) = 0 := by
      rw [idxGo, if_pos hrd]
    rw [topGo, hidx, if_neg (by omega)]
    have e0 : (0 : Int).toNat = 0 := rfl
    rw [e0, List.eraseIdx_zero, List.tail_cons, topGo_rise hE f t _ (by simpa using hl) hu'.2]
    simp
theorem order_rise {h : List HOp} (hE : ∀ e ∈ edgesF h, e.1 < e.2) : orderOf h = some (dealsL (doneL h)) := by
  unfold orderOf
  rw [topF_up (dealsL_up _), topGo_rise hE _ _ _ rfl (dealsL_up _)]
  rfl
theorem stamp_edges (lv : Bool) {h : List HOp} (hk : okH h) : ∀ e ∈ edgesF (stampF lv h).1, e.1 < e.2 := by
  obtain ⟨ms, hs⟩ := stamp_inv lv hk
  intro ⟨x, y⟩ he
  obtain ⟨i, k, a, b, hik, ha, hb, hab, rfl, rfl⟩ := mem_edgeP.1 (mem_edgesF.1 he)
  have hP := hs.up.sublist (List.filter_sublist (l := (stampF lv h).1) (p := fun o => (flagsF (stampF lv h).1).getD o.tx.toNat false))
  obtain ⟨hi', ea⟩ := List.getElem?_eq_some_iff.1 ha
  obtain ⟨hk', eb⟩ := List.getElem?_eq_some_iff.1 hb
  have := List.pairwise_iff_getElem.1 hP i k hi' hk' hik
  have e1 : ((stampF lv h).1.filter fun o => (flagsF (stampF lv h).1).getD o.tx.toNat false)[i] = a := ea
  have e2 : ((stampF lv h).1.filter fun o => (flagsF (stampF lv h).1).getD o.tx.toNat false)[k] = b := eb
  rw [e1, e2] at this
  exact this hab
theorem stamp_orders (lv : Bool) {h : List HOp} (hk : okH h) : okH (stampF lv h).1 ∧ (∀ e ∈ edgesF (stampF lv h).1, e.1 < e.2) ∧ (∃ o, orderOf (stampF lv h).1 = some o ∧ Up ltI o) ∧ ∀ v ∈ (stampF lv h).2, 1 ≤ v ∧ v ≤ 6 ∧ ∃ l, ownL (stampF lv h).1 v = l ++ [⟨v, 4, 0⟩] := by
  obtain ⟨ms, hs⟩ := stamp_inv lv hk
  exact ⟨hs.ok, stamp_edges lv hk, ⟨_, order_rise (stamp_edges lv hk), dealsL_up _⟩, fun v hv => ⟨(hs.vr v hv).1, (hs.vr v hv).2, hs.vi v hv⟩⟩
end Go.Proofs.YtmehghkpghbpjaaGreat
